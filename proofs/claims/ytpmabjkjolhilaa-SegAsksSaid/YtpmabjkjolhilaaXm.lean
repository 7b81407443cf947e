/- Part of a proof: what functions of the program do. -/
import Derived.Test.YtpmabjkjolhilaaXh
namespace Go.Proofs.Ytpmabjkjolhilaa.X
open Go Go.AM Go.Proofs
attribute [local go_sem ↓] w_skip w_lbl w_ops w_draw w_pre w_post w_alt w_seq w_cond w_block w_join w_loop w_exit w_ret w_scope w_rfunc l_nil l_cons th_n th_e th_r bk_n bk_r bk_e t_nil t_it t_call i_nil i_one i_grp s_nil s_cons c_call e_mv e_nil e_frz o_mov o_bin o_eq o_un o_conv o_len o_slen o_idx o_aix o_fad o_load o_store o_boxp o_boxo o_boxm o_alloc o_alloca o_nilarr o_build o_bslp o_bslo o_slc o_sslc o_slc3 o_sidx o_mkfn o_ext o_pick o_callf o_callb o_appd o_clear o_mxn o_field o_nilc o_make o_buildm o_boxg o_mkif o_tass o_eqs o_callo k_int k_str k_bool k_grb k_grt k_some k_none k_arr k_lens k_lenf k_lenh k_idxs k_idxf k_idxh k_ld k_loadp k_loadr k_loade k_storer k_storee k_oin k_ois k_slcs k_slcf k_slch k_slc3s k_slc3f k_slc3h k_app2 k_apps k_appf k_apph k_cals k_cald k_cali k_cnb k_cna k_esn k_esc k_efn k_efc k_esh b_add b_sub b_mul b_quo b_rem b_and b_or b_xor b_andNot b_eql b_neq b_lss b_leq b_gtr b_geq b_shl b_shr b_seq b_sne b_slt b_sad q_bool q_str q_nil q_nilf u_not u_neg u_xor f_ret f_nor v_r v_c v_reg v_ob v_set v_put v_so v_sn v_pn v_pc g_nil d_nil p_nil m_mv m_fr z_nil z_cons z_an z_ac g_cons d_cons p_cons y_mov y_bin y_eq y_un y_conv y_len y_slen y_idx y_aix y_fad y_load y_store y_boxp y_boxo y_boxm y_alloc y_alloca y_nilarr y_build y_bslp y_bslo y_slc y_sslc y_slc3 y_sidx y_mkfn y_ext y_pick y_callf y_callb y_appd y_clear y_mxn y_field y_nilc y_make y_buildm y_boxg y_mkif y_tass y_eqs y_callo nb_if
attribute [local go_sem] VL_mk VL2_mk If_t If_f If_not If_and If_or If_dt If_df If_et If_ef If_ne Ck_t Ck_h Opt_s ld_a ld_c renL ren keepR renA idxM invL getObs mapOb renOb allNone putAll fzR fzO fz fzL fzOb frzOk upFrom mapR resOne resA cellsOf oneA oneAL isP isPL okSt kRows kParts fillA setAt bor bor0 bor1 bor2 borC borI key0 key1 key2 keysA fillM cellsM cellM unif ptrA ifOk kPartsM getObsM allNoneM zipU scal0 scalar eqC evNil evNilF List.map_cons List.map_nil List.cons_append List.nil_append List.append_nil List.drop_zero List.drop_succ_cons List.drop_nil List.take_succ_cons List.take_zero List.take_nil List.length_cons List.length_nil List.length_map List.getElem?_map Option.map_some Option.map_none Int.toNat_natCast Int.toNat_zero Int.toNat_one Int.natCast_nonneg List.flatMap_cons List.flatMap_nil List.all_cons List.all_nil Bool.and_true Bool.true_and Bool.and_false Bool.false_and Bool.not_true Bool.not_false beq_self_eq_true nb_self all_nil List.forall_mem_cons tk_map tk_app bs_self bs_dec bq_t bq_f Bool.not_not decide_true decide_false Bool.not_not and_self and_true true_and eq_self List.reverse_cons List.reverse_nil List.getElem?_cons_zero List.getElem?_cons_succ cond_true cond_false List.set_cons_zero List.set_cons_succ Nat.zero_add Nat.add_zero if_true if_false ite_true ite_false implies_true wrap64 wrap8
set_option linter.unusedVariables false
set_option linter.unusedSimpArgs false
set_option maxRecDepth 10000
/-- The first place at which something is so; -1: there is none. -/
def ixF {α : Type} (p : α → Bool) (l : List α) : Int := match l.findIdx? p with | some i => i | none => -1
theorem ixF_hit {α : Type} {p : α → Bool} {l : List α} {i : Nat} {x : α} (h : l[i]? = some x) (hp : p x = true) (hb : ∀ j y, j < i → l[j]? = some y → p y = false) : ixF p l = i := by
  have hi := (List.getElem?_eq_some_iff.1 h).1
  have : l.findIdx? p = some i := by
    rw [List.findIdx?_eq_some_iff_getElem]
    refine ⟨hi, ?_, fun j hj => ?_⟩
    · rw [List.getElem?_eq_getElem hi] at h
      cases h
      exact hp
    · have := hb j _ hj (List.getElem?_eq_getElem (by omega))
      simpa using this
  simp only [ixF, this]
theorem ixF_none {α : Type} {p : α → Bool} {l : List α} (h : ∀ j y, j < l.length → l[j]? = some y → p y = false) : ixF p l = -1 := by
  have : l.findIdx? p = none := by
    rw [List.findIdx?_eq_none_iff]
    intro x hx
    obtain ⟨j, hj⟩ := List.getElem?_of_mem hx
    exact h j x (List.getElem?_eq_some_iff.1 hj).1 hj
  simp only [ixF, this]
theorem ix_cases {α : Type} (p : α → Bool) (l : List α) : (ixF p l = -1 ∧ l.find? p = none) ∨ ∃ (i : Nat) (x : α), ixF p l = i ∧ i < l.length ∧ l[i]? = some x ∧ l.find? p = some x := by
  unfold ixF
  cases h : l.findIdx? p with
  | none =>
    left
    rw [List.findIdx?_eq_none_iff] at h
    refine ⟨rfl, ?_⟩
    rw [List.find?_eq_none]
    intro x hx
    rw [h x hx]
    simp
  | some i =>
    right
    rw [List.findIdx?_eq_some_iff_getElem] at h
    obtain ⟨hi, h1, h2⟩ := h
    refine ⟨i, l[i], rfl, hi, List.getElem?_eq_getElem hi, ?_⟩
    rw [List.find?_eq_some_iff_append]
    refine ⟨h1, l.take i, l.drop (i + 1), ?_, fun y hy => ?_⟩
    · rw [← List.drop_eq_getElem_cons hi, List.take_append_drop]
    · obtain ⟨j, hj⟩ := List.getElem?_of_mem hy
      rw [List.getElem?_take] at hj
      split at hj
      · rename_i hji
        rw [List.getElem?_eq_getElem (by omega)] at hj
        cases hj
        simpa using h2 j hji
      · cases hj
theorem seg_get {l : List Seg} {i : Nat} (h : i < l.length) : Option.map encS l[i]? = some (encS l[i]!) := by simp [h]
theorem bangS {l : List Seg} {i : Nat} (h : i < l.length) : l[i]? = some l[i]! := by simp [h]
def z0 : Loc := ⟨0, 0, 0⟩
def hitB (v p : Int) (s : Seg) : Bool := s.v == v && decide (s.fr ≤ p) && decide (p < s.to)
def atF (l : List Seg) (v p : Int) : Loc := match l.find? (hitB v p) with | some s => s.loc | none => z0
theorem C31 (v p : Int) (s : Seg) : Ctr Try.prog 31 [.agg (encS s), .rp [.int .i64 v], .rp [.int .i64 p]] [] (ret [.bool (hitB v p s)]) := by
  apply ctr_b A31_ok rfl (Nat.le_of_ble_eq_true rfl)
  unfold A31
  simp only [initL, Nat.reduceAdd, encS]
  simp (config := {maxSteps := 2000000, implicitDefEqProofs := false}) (disch := omega) only [↓reduceIte, go_sem, Int.reduceToNat, Nat.reduceAdd, Nat.reduceLeDiff, Nat.reduceEqDiff, Nat.reduceSub, Nat.reduceMul, reduceCtorEq]
  refine ifE (fun e => ?_) (fun e => ?_)
  · simp (config := {maxSteps := 2000000, implicitDefEqProofs := false}) (disch := omega) only [↓reduceIte, go_sem, Int.reduceToNat, Nat.reduceAdd, Nat.reduceLeDiff, Nat.reduceEqDiff, Nat.reduceSub, Nat.reduceMul, reduceCtorEq]
    refine ifD (fun e2 => ?_) (fun e2 => ?_)
    · simp (config := {maxSteps := 2000000, implicitDefEqProofs := false}) (disch := omega) only [↓reduceIte, go_sem, Int.reduceToNat, Nat.reduceAdd, Nat.reduceLeDiff, Nat.reduceEqDiff, Nat.reduceSub, Nat.reduceMul, reduceCtorEq]
      exact ⟨by simp [hitB, e, e2], rfl⟩
    · simp (config := {maxSteps := 2000000, implicitDefEqProofs := false}) (disch := omega) only [↓reduceIte, go_sem, Int.reduceToNat, Nat.reduceAdd, Nat.reduceLeDiff, Nat.reduceEqDiff, Nat.reduceSub, Nat.reduceMul, reduceCtorEq]
      exact ⟨by simp [hitB, e, e2], rfl⟩
  · simp (config := {maxSteps := 2000000, implicitDefEqProofs := false}) (disch := omega) only [↓reduceIte, go_sem, Int.reduceToNat, Nat.reduceAdd, Nat.reduceLeDiff, Nat.reduceEqDiff, Nat.reduceSub, Nat.reduceMul, reduceCtorEq]
    exact ⟨by simp [hitB, e], rfl⟩
theorem C30 (f : Nat) (caps : List AV) (p : Seg → Bool) (l : List Seg) (hc : isPL caps = true) (hl : l.length < 1000000) (h : ∀ s ∈ l, Ctr Try.prog f (.agg (encS s) :: caps) [] (ret [.bool (p s)])) : Ctr Try.prog 30 [.sl (l.map encS), .fn f caps] [] (ret [.int .i64 (ixF p l)]) := by
  apply ctr_b A30_ok rfl (Nat.le_of_ble_eq_true rfl)
  unfold A30
  simp only [initL, Nat.reduceAdd]
  simp (config := {maxSteps := 2000000, implicitDefEqProofs := false}) (disch := omega) only [↓reduceIte, go_sem, Int.reduceToNat, Nat.reduceAdd, Nat.reduceLeDiff, Nat.reduceEqDiff, Nat.reduceSub, Nat.reduceMul, reduceCtorEq, hc, renL_pure hc]
  refine loopL (σ := Nat) (fun s => ⟨[(0, .sl (l.map encS)), (1, .fn f caps), (7, .int .i64 l.length), (8, .int .i64 s)], []⟩) (fun s => s ≤ l.length ∧ ∀ j y, j < s → l[j]? = some y → p y = false) (fun s => l.length - s) 0 (by simp (config := {maxSteps := 2000000, implicitDefEqProofs := false}) (disch := omega) only [↓reduceIte, go_sem, Int.reduceToNat, Nat.reduceAdd, Nat.reduceLeDiff, Nat.reduceEqDiff, Nat.reduceSub, Nat.reduceMul, reduceCtorEq, hc, renL_pure hc]; rfl) ⟨by omega, fun j y hj => by omega⟩ ?_
  rintro s ⟨h1, h2⟩
  simp (config := {maxSteps := 2000000, implicitDefEqProofs := false}) (disch := omega) only [↓reduceIte, go_sem, Int.reduceToNat, Nat.reduceAdd, Nat.reduceLeDiff, Nat.reduceEqDiff, Nat.reduceSub, Nat.reduceMul, reduceCtorEq, hc, renL_pure hc]
  refine ifD (fun c => ?_) (fun c => ?_)
  · have hs : s < l.length := by omega
    have hg := seg_get hs
    have hb := bangS hs
    have hx := h l[s]! (List.mem_of_getElem? hb)
    generalize l[s]! = x at hg hb hx
    simp only [encS] at hg hx
    simp (config := {maxSteps := 2000000, implicitDefEqProofs := false}) (disch := omega) only [↓reduceIte, go_sem, Int.reduceToNat, Nat.reduceAdd, Nat.reduceLeDiff, Nat.reduceEqDiff, Nat.reduceSub, Nat.reduceMul, reduceCtorEq, hg, hc, renL_pure hc]
    refine callL hx ?_
    simp (config := {maxSteps := 2000000, implicitDefEqProofs := false}) (disch := omega) only [↓reduceIte, go_sem, Int.reduceToNat, Nat.reduceAdd, Nat.reduceLeDiff, Nat.reduceEqDiff, Nat.reduceSub, Nat.reduceMul, reduceCtorEq, hg, hc, renL_pure hc]
    refine ifB (fun b => ?_) (fun b => ?_)
    · simp (config := {maxSteps := 2000000, implicitDefEqProofs := false}) (disch := omega) only [↓reduceIte, go_sem, Int.reduceToNat, Nat.reduceAdd, Nat.reduceLeDiff, Nat.reduceEqDiff, Nat.reduceSub, Nat.reduceMul, reduceCtorEq, hg, hc, renL_pure hc]
      exact ⟨by rw [ixF_hit (i := s) hb b h2], rfl⟩
    · simp (config := {maxSteps := 2000000, implicitDefEqProofs := false}) (disch := omega) only [↓reduceIte, go_sem, Int.reduceToNat, Nat.reduceAdd, Nat.reduceLeDiff, Nat.reduceEqDiff, Nat.reduceSub, Nat.reduceMul, reduceCtorEq, hg, hc, renL_pure hc]
      refine ⟨s + 1, by simp, ⟨by omega, fun j y hj hy => ?_⟩, by omega⟩
      by_cases hjs : j = s
      · subst hjs
        rw [hb] at hy
        cases hy
        exact b
      · exact h2 j y (by omega) hy
  · simp (config := {maxSteps := 2000000, implicitDefEqProofs := false}) (disch := omega) only [↓reduceIte, go_sem, Int.reduceToNat, Nat.reduceAdd, Nat.reduceLeDiff, Nat.reduceEqDiff, Nat.reduceSub, Nat.reduceMul, reduceCtorEq, hc, renL_pure hc]
    exact ⟨by rw [ixF_none fun j y hj hy => h2 j y (by omega) hy], rfl⟩
theorem C10 (l : List Seg) (v p : Int) (hl : l.length < 1000000) : Ctr Try.prog 10 [.sl (l.map encS), .int .i64 v, .int .i64 p] [] (ret [.int .i64 (ixF (hitB v p) l)]) := by
  apply ctr_b A10_ok rfl (Nat.le_of_ble_eq_true rfl)
  unfold A10
  simp only [initL, Nat.reduceAdd]
  simp (config := {maxSteps := 2000000, implicitDefEqProofs := false}) (disch := omega) only [↓reduceIte, go_sem, Int.reduceToNat, Nat.reduceAdd, Nat.reduceLeDiff, Nat.reduceEqDiff, Nat.reduceSub, Nat.reduceMul, reduceCtorEq]
  refine callL (C30 31 _ (hitB v p) l rfl hl fun s _ => C31 v p s) ?_
  simp (config := {maxSteps := 2000000, implicitDefEqProofs := false}) (disch := omega) only [↓reduceIte, go_sem, Int.reduceToNat, Nat.reduceAdd, Nat.reduceLeDiff, Nat.reduceEqDiff, Nat.reduceSub, Nat.reduceMul, reduceCtorEq]
  exact ⟨rfl, rfl⟩
theorem C16 (l : List Seg) (v p : Int) (hl : l.length < 1000000) : Ctr Try.prog 16 [.sl (l.map encS), .int .i64 v, .int .i64 p] [] (ret [.int .i64 (ixF (hitB v p) l)]) := by
  apply ctr_b A16_ok rfl (Nat.le_of_ble_eq_true rfl)
  unfold A16
  simp only [initL, Nat.reduceAdd]
  simp (config := {maxSteps := 2000000, implicitDefEqProofs := false}) (disch := omega) only [↓reduceIte, go_sem, Int.reduceToNat, Nat.reduceAdd, Nat.reduceLeDiff, Nat.reduceEqDiff, Nat.reduceSub, Nat.reduceMul, reduceCtorEq]
  refine loopL (σ := Nat) (fun s => ⟨[(0, .sl (l.map encS)), (1, .int .i64 v), (2, .int .i64 p), (7, .int .i64 s)], []⟩) (fun s => s ≤ l.length ∧ ∀ j y, j < s → l[j]? = some y → hitB v p y = false) (fun s => l.length - s) 0 (by simp (config := {maxSteps := 2000000, implicitDefEqProofs := false}) (disch := omega) only [↓reduceIte, go_sem, Int.reduceToNat, Nat.reduceAdd, Nat.reduceLeDiff, Nat.reduceEqDiff, Nat.reduceSub, Nat.reduceMul, reduceCtorEq]; rfl) ⟨by omega, fun j y hj => by omega⟩ ?_
  rintro s ⟨h1, h2⟩
  simp (config := {maxSteps := 2000000, implicitDefEqProofs := false}) (disch := omega) only [↓reduceIte, go_sem, Int.reduceToNat, Nat.reduceAdd, Nat.reduceLeDiff, Nat.reduceEqDiff, Nat.reduceSub, Nat.reduceMul, reduceCtorEq]
  refine ifD (fun c => ?_) (fun c => ?_)
  · have hs : s < l.length := by omega
    have hg := seg_get hs
    have hb := bangS hs
    generalize l[s]! = x at hg hb
    simp only [encS] at hg
    have next : hitB v p x = false → ∀ j y, j < s + 1 → l[j]? = some y → hitB v p y = false := by
      intro hx j y hj hy
      by_cases hjs : j = s
      · subst hjs
        rw [hb] at hy
        cases hy
        exact hx
      · exact h2 j y (by omega) hy
    simp (config := {maxSteps := 2000000, implicitDefEqProofs := false}) (disch := omega) only [↓reduceIte, go_sem, Int.reduceToNat, Nat.reduceAdd, Nat.reduceLeDiff, Nat.reduceEqDiff, Nat.reduceSub, Nat.reduceMul, reduceCtorEq, hg]
    refine ifE (fun e => ?_) (fun e => ?_)
    · simp (config := {maxSteps := 2000000, implicitDefEqProofs := false}) (disch := omega) only [↓reduceIte, go_sem, Int.reduceToNat, Nat.reduceAdd, Nat.reduceLeDiff, Nat.reduceEqDiff, Nat.reduceSub, Nat.reduceMul, reduceCtorEq, hg]
      refine ifD (fun e2 => ?_) (fun e2 => ?_)
      · simp (config := {maxSteps := 2000000, implicitDefEqProofs := false}) (disch := omega) only [↓reduceIte, go_sem, Int.reduceToNat, Nat.reduceAdd, Nat.reduceLeDiff, Nat.reduceEqDiff, Nat.reduceSub, Nat.reduceMul, reduceCtorEq, hg]
        refine ifD (fun e3 => ?_) (fun e3 => ?_)
        · simp (config := {maxSteps := 2000000, implicitDefEqProofs := false}) (disch := omega) only [↓reduceIte, go_sem, Int.reduceToNat, Nat.reduceAdd, Nat.reduceLeDiff, Nat.reduceEqDiff, Nat.reduceSub, Nat.reduceMul, reduceCtorEq, hg]
          exact ⟨by rw [ixF_hit (i := s) hb (by simp only [hitB, e, e3, beq_self_eq_true, Bool.true_and, decide_true, Bool.and_true, decide_eq_true_eq]; omega) h2], rfl⟩
        · simp (config := {maxSteps := 2000000, implicitDefEqProofs := false}) (disch := omega) only [↓reduceIte, go_sem, Int.reduceToNat, Nat.reduceAdd, Nat.reduceLeDiff, Nat.reduceEqDiff, Nat.reduceSub, Nat.reduceMul, reduceCtorEq, hg]
          exact ⟨s + 1, by simp, ⟨by omega, next (by simp [hitB, e3])⟩, by omega⟩
      · simp (config := {maxSteps := 2000000, implicitDefEqProofs := false}) (disch := omega) only [↓reduceIte, go_sem, Int.reduceToNat, Nat.reduceAdd, Nat.reduceLeDiff, Nat.reduceEqDiff, Nat.reduceSub, Nat.reduceMul, reduceCtorEq, hg]
        exact ⟨s + 1, by simp, ⟨by omega, next (by simp only [hitB, Bool.and_eq_false_iff, decide_eq_false_iff_not]; left; right; omega)⟩, by omega⟩
    · simp (config := {maxSteps := 2000000, implicitDefEqProofs := false}) (disch := omega) only [↓reduceIte, go_sem, Int.reduceToNat, Nat.reduceAdd, Nat.reduceLeDiff, Nat.reduceEqDiff, Nat.reduceSub, Nat.reduceMul, reduceCtorEq, hg]
      exact ⟨s + 1, by simp, ⟨by omega, next (by simp [hitB, e])⟩, by omega⟩
  · simp (config := {maxSteps := 2000000, implicitDefEqProofs := false}) (disch := omega) only [↓reduceIte, go_sem, Int.reduceToNat, Nat.reduceAdd, Nat.reduceLeDiff, Nat.reduceEqDiff, Nat.reduceSub, Nat.reduceMul, reduceCtorEq]
    exact ⟨by rw [ixF_none fun j y hj hy => h2 j y (by omega) hy], rfl⟩
theorem at_none {l : List Seg} {v p : Int} (h : l.find? (hitB v p) = none) : atF l v p = z0 := by unfold atF; rw [h]
theorem at_some {l : List Seg} {v p : Int} {s : Seg} (h : l.find? (hitB v p) = some s) : atF l v p = s.loc := by unfold atF; rw [h]
theorem C9 (l : List Seg) (v p : Int) (hl : l.length < 1000000) : Ctr Try.prog 9 [.sl (l.map encS), .int .i64 v, .int .i64 p] [] (ret [.agg (encL (atF l v p)), .bool (decide (ixF (hitB v p) l ≥ 0))]) := by
  apply ctr_b A9_ok rfl (Nat.le_of_ble_eq_true rfl)
  unfold A9
  simp only [initL, Nat.reduceAdd]
  simp (config := {maxSteps := 2000000, implicitDefEqProofs := false}) (disch := omega) only [↓reduceIte, go_sem, Int.reduceToNat, Nat.reduceAdd, Nat.reduceLeDiff, Nat.reduceEqDiff, Nat.reduceSub, Nat.reduceMul, reduceCtorEq]
  refine callL (C10 l v p hl) ?_
  rcases ix_cases (hitB v p) l with ⟨h1, h2⟩ | ⟨i, x, h1, h2, h3, h4⟩
  · rw [h1, at_none h2]
    simp (config := {maxSteps := 2000000, implicitDefEqProofs := false}) (disch := omega) only [↓reduceIte, go_sem, Int.reduceToNat, Nat.reduceAdd, Nat.reduceLeDiff, Nat.reduceEqDiff, Nat.reduceSub, Nat.reduceMul, reduceCtorEq]
    exact ⟨rfl, rfl⟩
  · have hg : Option.map encS l[i]? = some (encS x) := by rw [h3]; rfl
    simp only [encS] at hg
    rw [h1, at_some h4]
    simp (config := {maxSteps := 2000000, implicitDefEqProofs := false}) (disch := omega) only [↓reduceIte, go_sem, Int.reduceToNat, Nat.reduceAdd, Nat.reduceLeDiff, Nat.reduceEqDiff, Nat.reduceSub, Nat.reduceMul, reduceCtorEq, hg]
    exact ⟨by simp [encL], rfl⟩
theorem C17 (l : List Seg) (v p : Int) (hl : l.length < 1000000) : Ctr Try.prog 17 [.sl (l.map encS), .int .i64 v, .int .i64 p] [] (ret [.agg (encL (atF l v p))]) := by
  apply ctr_b A17_ok rfl (Nat.le_of_ble_eq_true rfl)
  unfold A17
  simp only [initL, Nat.reduceAdd]
  simp (config := {maxSteps := 2000000, implicitDefEqProofs := false}) (disch := omega) only [↓reduceIte, go_sem, Int.reduceToNat, Nat.reduceAdd, Nat.reduceLeDiff, Nat.reduceEqDiff, Nat.reduceSub, Nat.reduceMul, reduceCtorEq]
  refine callL (C16 l v p hl) ?_
  rcases ix_cases (hitB v p) l with ⟨h1, h2⟩ | ⟨i, x, h1, h2, h3, h4⟩
  · rw [h1, at_none h2]
    simp (config := {maxSteps := 2000000, implicitDefEqProofs := false}) (disch := omega) only [↓reduceIte, go_sem, Int.reduceToNat, Nat.reduceAdd, Nat.reduceLeDiff, Nat.reduceEqDiff, Nat.reduceSub, Nat.reduceMul, reduceCtorEq]
    exact ⟨rfl, rfl⟩
  · have hg : Option.map encS l[i]? = some (encS x) := by rw [h3]; rfl
    simp only [encS] at hg
    rw [h1, at_some h4]
    simp (config := {maxSteps := 2000000, implicitDefEqProofs := false}) (disch := omega) only [↓reduceIte, go_sem, Int.reduceToNat, Nat.reduceAdd, Nat.reduceLeDiff, Nat.reduceEqDiff, Nat.reduceSub, Nat.reduceMul, reduceCtorEq, hg]
    exact ⟨rfl, rfl⟩
/-! Wrong. -/
def okP : Option Seg → Seg → Bool
  | none, s => decide (0 ≤ s.fr) && decide (s.fr < s.to)
  | some a, s => decide (0 ≤ s.fr) && decide (s.fr < s.to) && (decide (a.v < s.v) || (decide (a.v = s.v) && decide (a.to ≤ s.fr)))
theorem okP_none {s : Seg} : okP none s = true ↔ 0 ≤ s.fr ∧ s.fr < s.to := by simp [okP]
theorem okP_some {a s : Seg} : okP (some a) s = true ↔ 0 ≤ s.fr ∧ s.fr < s.to ∧ (a.v < s.v ∨ (a.v = s.v ∧ a.to ≤ s.fr)) := by simp [okP, and_assoc]
def badF : Option Seg → List Seg → Nat → Int
  | _, [], _ => -1
  | q, s :: l, i => if okP q s then badF (some s) l (i + 1) else i
def wrongF (l : List Seg) : Int := badF none l 0
def prv (l : List Seg) (i : Nat) : Option Seg := if i = 0 then none else l[i - 1]?
theorem drop_bang {l : List Seg} {i : Nat} (h : i < l.length) : l.drop i = l[i]! :: l.drop (i + 1) := by
  rw [List.drop_eq_getElem_cons h]
  simp [h]
theorem prv_succ {l : List Seg} {i : Nat} (h : i < l.length) : prv l (i + 1) = some l[i]! := by
  unfold prv
  rw [if_neg (by omega), Nat.add_sub_cancel]
  exact bangS h
theorem bad_step {l : List Seg} {i : Nat} (h : i < l.length) : badF (prv l i) (l.drop i) i = if okP (prv l i) l[i]! then badF (prv l (i + 1)) (l.drop (i + 1)) (i + 1) else i := by
  rw [drop_bang h, badF, prv_succ h]
theorem C14 (l : List Seg) (hl : l.length < 1000000) : Ctr Try.prog 14 [.sl (l.map encS)] [] (ret [.int .i64 (wrongF l)]) := by
  apply ctr_b A14_ok rfl (Nat.le_of_ble_eq_true rfl)
  unfold A14
  simp only [initL, Nat.reduceAdd]
  simp (config := {maxSteps := 2000000, implicitDefEqProofs := false}) (disch := omega) only [↓reduceIte, go_sem, Int.reduceToNat, Nat.reduceAdd, Nat.reduceLeDiff, Nat.reduceEqDiff, Nat.reduceSub, Nat.reduceMul, reduceCtorEq]
  refine loopL (σ := Nat) (fun s => ⟨[(0, .sl (l.map encS)), (6, .sl (l.map encS)), (7, .int .i64 l.length), (8, .int .i64 s)], []⟩) (fun s => s ≤ l.length ∧ wrongF l = badF (prv l s) (l.drop s) s) (fun s => l.length - s) 0 (by simp (config := {maxSteps := 2000000, implicitDefEqProofs := false}) (disch := omega) only [↓reduceIte, go_sem, Int.reduceToNat, Nat.reduceAdd, Nat.reduceLeDiff, Nat.reduceEqDiff, Nat.reduceSub, Nat.reduceMul, reduceCtorEq]; rfl) ⟨by omega, rfl⟩ ?_
  rintro s ⟨h1, h2⟩
  simp (config := {maxSteps := 2000000, implicitDefEqProofs := false}) (disch := omega) only [↓reduceIte, go_sem, Int.reduceToNat, Nat.reduceAdd, Nat.reduceLeDiff, Nat.reduceEqDiff, Nat.reduceSub, Nat.reduceMul, reduceCtorEq]
  refine ifD (fun c => ?_) (fun c => ?_)
  · have hs : s < l.length := by omega
    rw [bad_step hs] at h2
    have hg := seg_get hs
    generalize l[s]! = x at hg h2
    simp only [encS] at hg
    have nok : ¬ (0 ≤ x.fr ∧ x.fr < x.to) → okP (prv l s) x = false := by
      intro h
      rw [← Bool.not_eq_true]
      intro hk
      cases hp : prv l s with
      | none => rw [hp] at hk; exact h (okP_none.1 hk)
      | some a => rw [hp] at hk; have := okP_some.1 hk; exact h ⟨this.1, this.2.1⟩
    simp (config := {maxSteps := 2000000, implicitDefEqProofs := false}) (disch := omega) only [↓reduceIte, go_sem, Int.reduceToNat, Nat.reduceAdd, Nat.reduceLeDiff, Nat.reduceEqDiff, Nat.reduceSub, Nat.reduceMul, reduceCtorEq, hg]
    refine ifD (fun e => ?_) (fun e => ?_)
    · rw [nok (by omega)] at h2
      simp (config := {maxSteps := 2000000, implicitDefEqProofs := false}) (disch := omega) only [↓reduceIte, go_sem, Int.reduceToNat, Nat.reduceAdd, Nat.reduceLeDiff, Nat.reduceEqDiff, Nat.reduceSub, Nat.reduceMul, reduceCtorEq, hg]
      exact ⟨by rw [h2]; simp, rfl⟩
    · simp (config := {maxSteps := 2000000, implicitDefEqProofs := false}) (disch := omega) only [↓reduceIte, go_sem, Int.reduceToNat, Nat.reduceAdd, Nat.reduceLeDiff, Nat.reduceEqDiff, Nat.reduceSub, Nat.reduceMul, reduceCtorEq, hg]
      refine ifD (fun e2 => ?_) (fun e2 => ?_)
      · rw [nok (by omega)] at h2
        simp (config := {maxSteps := 2000000, implicitDefEqProofs := false}) (disch := omega) only [↓reduceIte, go_sem, Int.reduceToNat, Nat.reduceAdd, Nat.reduceLeDiff, Nat.reduceEqDiff, Nat.reduceSub, Nat.reduceMul, reduceCtorEq, hg]
        exact ⟨by rw [h2]; simp, rfl⟩
      · simp (config := {maxSteps := 2000000, implicitDefEqProofs := false}) (disch := omega) only [↓reduceIte, go_sem, Int.reduceToNat, Nat.reduceAdd, Nat.reduceLeDiff, Nat.reduceEqDiff, Nat.reduceSub, Nat.reduceMul, reduceCtorEq, hg]
        refine ifE (fun e3 => ?_) (fun e3 => ?_)
        · have hs0 : s = 0 := by omega
          rw [show prv l s = none by simp [prv, hs0], okP_none.2 (by omega)] at h2
          simp (config := {maxSteps := 2000000, implicitDefEqProofs := false}) (disch := omega) only [↓reduceIte, go_sem, Int.reduceToNat, Nat.reduceAdd, Nat.reduceLeDiff, Nat.reduceEqDiff, Nat.reduceSub, Nat.reduceMul, reduceCtorEq, hg]
          exact ⟨s + 1, by simp, ⟨by omega, by simpa using h2⟩, by omega⟩
        · have hs0 : s ≠ 0 := by omega
          have hg2 := seg_get (show s - 1 < l.length by omega)
          have hpv : prv l s = some l[s - 1]! := by unfold prv; rw [if_neg hs0]; exact bangS (by omega)
          rw [hpv] at h2 nok
          have t1 : ((s : Int) - 1).toNat = s - 1 := by omega
          generalize l[s - 1]! = a at hg2 h2
          simp only [encS] at hg2
          simp (config := {maxSteps := 2000000, implicitDefEqProofs := false}) (disch := omega) only [↓reduceIte, go_sem, Int.reduceToNat, Nat.reduceAdd, Nat.reduceLeDiff, Nat.reduceEqDiff, Nat.reduceSub, Nat.reduceMul, reduceCtorEq, hg, hg2, t1]
          refine ifD (fun e4 => ?_) (fun e4 => ?_)
          · rw [show okP (some a) x = false by rw [← Bool.not_eq_true]; intro hk; have := okP_some.1 hk; omega] at h2
            simp (config := {maxSteps := 2000000, implicitDefEqProofs := false}) (disch := omega) only [↓reduceIte, go_sem, Int.reduceToNat, Nat.reduceAdd, Nat.reduceLeDiff, Nat.reduceEqDiff, Nat.reduceSub, Nat.reduceMul, reduceCtorEq, hg]
            exact ⟨by rw [h2]; simp, rfl⟩
          · simp (config := {maxSteps := 2000000, implicitDefEqProofs := false}) (disch := omega) only [↓reduceIte, go_sem, Int.reduceToNat, Nat.reduceAdd, Nat.reduceLeDiff, Nat.reduceEqDiff, Nat.reduceSub, Nat.reduceMul, reduceCtorEq, hg, hg2, t1]
            refine ifE (fun e5 => ?_) (fun e5 => ?_)
            · simp (config := {maxSteps := 2000000, implicitDefEqProofs := false}) (disch := omega) only [↓reduceIte, go_sem, Int.reduceToNat, Nat.reduceAdd, Nat.reduceLeDiff, Nat.reduceEqDiff, Nat.reduceSub, Nat.reduceMul, reduceCtorEq, hg, hg2, t1]
              refine ifD (fun e6 => ?_) (fun e6 => ?_)
              · rw [show okP (some a) x = false by rw [← Bool.not_eq_true]; intro hk; have := okP_some.1 hk; omega] at h2
                simp (config := {maxSteps := 2000000, implicitDefEqProofs := false}) (disch := omega) only [↓reduceIte, go_sem, Int.reduceToNat, Nat.reduceAdd, Nat.reduceLeDiff, Nat.reduceEqDiff, Nat.reduceSub, Nat.reduceMul, reduceCtorEq, hg]
                exact ⟨by rw [h2]; simp, rfl⟩
              · rw [okP_some.2 (by omega)] at h2
                simp (config := {maxSteps := 2000000, implicitDefEqProofs := false}) (disch := omega) only [↓reduceIte, go_sem, Int.reduceToNat, Nat.reduceAdd, Nat.reduceLeDiff, Nat.reduceEqDiff, Nat.reduceSub, Nat.reduceMul, reduceCtorEq, hg]
                exact ⟨s + 1, by simp, ⟨by omega, by simpa using h2⟩, by omega⟩
            · rw [okP_some.2 (by omega)] at h2
              simp (config := {maxSteps := 2000000, implicitDefEqProofs := false}) (disch := omega) only [↓reduceIte, go_sem, Int.reduceToNat, Nat.reduceAdd, Nat.reduceLeDiff, Nat.reduceEqDiff, Nat.reduceSub, Nat.reduceMul, reduceCtorEq, hg]
              exact ⟨s + 1, by simp, ⟨by omega, by simpa using h2⟩, by omega⟩
  · simp (config := {maxSteps := 2000000, implicitDefEqProofs := false}) (disch := omega) only [↓reduceIte, go_sem, Int.reduceToNat, Nat.reduceAdd, Nat.reduceLeDiff, Nat.reduceEqDiff, Nat.reduceSub, Nat.reduceMul, reduceCtorEq]
    rw [List.drop_eq_nil_of_le (by omega)] at h2
    exact ⟨by rw [h2]; rfl, rfl⟩
theorem C15 (l : List Seg) (hl : l.length < 1000000) : Ctr Try.prog 15 [.sl (l.map encS)] [] (ret [.int .i64 (wrongF l)]) := by
  apply ctr_b A15_ok rfl (Nat.le_of_ble_eq_true rfl)
  unfold A15
  simp only [initL, Nat.reduceAdd]
  simp (config := {maxSteps := 2000000, implicitDefEqProofs := false}) (disch := omega) only [↓reduceIte, go_sem, Int.reduceToNat, Nat.reduceAdd, Nat.reduceLeDiff, Nat.reduceEqDiff, Nat.reduceSub, Nat.reduceMul, reduceCtorEq]
  refine loopL (σ := Nat) (fun s => ⟨[(0, .sl (l.map encS)), (3, .int .i64 s)], []⟩) (fun s => s ≤ l.length ∧ wrongF l = badF (prv l s) (l.drop s) s) (fun s => l.length - s) 0 (by simp (config := {maxSteps := 2000000, implicitDefEqProofs := false}) (disch := omega) only [↓reduceIte, go_sem, Int.reduceToNat, Nat.reduceAdd, Nat.reduceLeDiff, Nat.reduceEqDiff, Nat.reduceSub, Nat.reduceMul, reduceCtorEq]; rfl) ⟨by omega, rfl⟩ ?_
  rintro s ⟨h1, h2⟩
  simp (config := {maxSteps := 2000000, implicitDefEqProofs := false}) (disch := omega) only [↓reduceIte, go_sem, Int.reduceToNat, Nat.reduceAdd, Nat.reduceLeDiff, Nat.reduceEqDiff, Nat.reduceSub, Nat.reduceMul, reduceCtorEq]
  refine ifD (fun c => ?_) (fun c => ?_)
  · have hs : s < l.length := by omega
    rw [bad_step hs] at h2
    have hg := seg_get hs
    generalize l[s]! = x at hg h2
    simp only [encS] at hg
    simp (config := {maxSteps := 2000000, implicitDefEqProofs := false}) (disch := omega) only [↓reduceIte, go_sem, Int.reduceToNat, Nat.reduceAdd, Nat.reduceLeDiff, Nat.reduceEqDiff, Nat.reduceSub, Nat.reduceMul, reduceCtorEq]
    refine joinL (σ := Bool) (fun b => ⟨[(0, .sl (l.map encS)), (3, .int .i64 s), (4, .bool b)], []⟩) (fun b => b = (decide (0 ≤ x.fr) && decide (x.fr < x.to))) ?_ ?_
    · simp (config := {maxSteps := 2000000, implicitDefEqProofs := false}) (disch := omega) only [↓reduceIte, go_sem, Int.reduceToNat, Nat.reduceAdd, Nat.reduceLeDiff, Nat.reduceEqDiff, Nat.reduceSub, Nat.reduceMul, reduceCtorEq, hg]
      refine ifD (fun e => ?_) (fun e => ?_)
      · simp (config := {maxSteps := 2000000, implicitDefEqProofs := false}) (disch := omega) only [↓reduceIte, go_sem, Int.reduceToNat, Nat.reduceAdd, Nat.reduceLeDiff, Nat.reduceEqDiff, Nat.reduceSub, Nat.reduceMul, reduceCtorEq, hg]
        refine accL (by kernel_rfl) ?_
        simp (config := {maxSteps := 2000000, implicitDefEqProofs := false}) (disch := omega) only [↓reduceIte, go_sem, Int.reduceToNat, Nat.reduceAdd, Nat.reduceLeDiff, Nat.reduceEqDiff, Nat.reduceSub, Nat.reduceMul, reduceCtorEq, hg]
        exact ⟨_, rfl, by simp; omega⟩
      · simp (config := {maxSteps := 2000000, implicitDefEqProofs := false}) (disch := omega) only [↓reduceIte, go_sem, Int.reduceToNat, Nat.reduceAdd, Nat.reduceLeDiff, Nat.reduceEqDiff, Nat.reduceSub, Nat.reduceMul, reduceCtorEq, hg]
        refine accL (by kernel_rfl) ?_
        simp (config := {maxSteps := 2000000, implicitDefEqProofs := false}) (disch := omega) only [↓reduceIte, go_sem, Int.reduceToNat, Nat.reduceAdd, Nat.reduceLeDiff, Nat.reduceEqDiff, Nat.reduceSub, Nat.reduceMul, reduceCtorEq, hg]
        exact ⟨_, rfl, by simp; omega⟩
    · rintro b hb
      simp (config := {maxSteps := 2000000, implicitDefEqProofs := false}) (disch := omega) only [↓reduceIte, go_sem, Int.reduceToNat, Nat.reduceAdd, Nat.reduceLeDiff, Nat.reduceEqDiff, Nat.reduceSub, Nat.reduceMul, reduceCtorEq]
      refine joinL (σ := Bool) (fun b => ⟨[(0, .sl (l.map encS)), (3, .int .i64 s), (4, .bool b)], []⟩) (fun b => b = okP (prv l s) x) ?_ ?_
      · simp (config := {maxSteps := 2000000, implicitDefEqProofs := false}) (disch := omega) only [↓reduceIte, go_sem, Int.reduceToNat, Nat.reduceAdd, Nat.reduceLeDiff, Nat.reduceEqDiff, Nat.reduceSub, Nat.reduceMul, reduceCtorEq]
        refine ifD (fun e => ?_) (fun e => ?_)
        · have hs0 : s ≠ 0 := by omega
          have hg2 := seg_get (show s - 1 < l.length by omega)
          have hpv : prv l s = some l[s - 1]! := by unfold prv; rw [if_neg hs0]; exact bangS (by omega)
          rw [hpv]
          have t1 : ((s : Int) - 1).toNat = s - 1 := by omega
          generalize l[s - 1]! = a at hg2
          simp only [encS] at hg2
          simp (config := {maxSteps := 2000000, implicitDefEqProofs := false}) (disch := omega) only [↓reduceIte, go_sem, Int.reduceToNat, Nat.reduceAdd, Nat.reduceLeDiff, Nat.reduceEqDiff, Nat.reduceSub, Nat.reduceMul, reduceCtorEq]
          refine ifB (fun e2 => ?_) (fun e2 => ?_)
          · simp (config := {maxSteps := 2000000, implicitDefEqProofs := false}) (disch := omega) only [↓reduceIte, go_sem, Int.reduceToNat, Nat.reduceAdd, Nat.reduceLeDiff, Nat.reduceEqDiff, Nat.reduceSub, Nat.reduceMul, reduceCtorEq, hg, hg2, t1]
            refine ifD (fun e4 => ?_) (fun e4 => ?_)
            · simp (config := {maxSteps := 2000000, implicitDefEqProofs := false}) (disch := omega) only [↓reduceIte, go_sem, Int.reduceToNat, Nat.reduceAdd, Nat.reduceLeDiff, Nat.reduceEqDiff, Nat.reduceSub, Nat.reduceMul, reduceCtorEq, hg, hg2, t1]
              refine accL (by kernel_rfl) ?_
              simp (config := {maxSteps := 2000000, implicitDefEqProofs := false}) (disch := omega) only [↓reduceIte, go_sem, Int.reduceToNat, Nat.reduceAdd, Nat.reduceLeDiff, Nat.reduceEqDiff, Nat.reduceSub, Nat.reduceMul, reduceCtorEq, hg, hg2, t1]
              refine ⟨_, rfl, ?_⟩
              rw [e2] at hb
              simp only [okP, ← hb]
              simp; omega
            · simp (config := {maxSteps := 2000000, implicitDefEqProofs := false}) (disch := omega) only [↓reduceIte, go_sem, Int.reduceToNat, Nat.reduceAdd, Nat.reduceLeDiff, Nat.reduceEqDiff, Nat.reduceSub, Nat.reduceMul, reduceCtorEq, hg, hg2, t1]
              refine ifE (fun e5 => ?_) (fun e5 => ?_)
              · simp (config := {maxSteps := 2000000, implicitDefEqProofs := false}) (disch := omega) only [↓reduceIte, go_sem, Int.reduceToNat, Nat.reduceAdd, Nat.reduceLeDiff, Nat.reduceEqDiff, Nat.reduceSub, Nat.reduceMul, reduceCtorEq, hg, hg2, t1]
                refine accL (by kernel_rfl) ?_
                simp (config := {maxSteps := 2000000, implicitDefEqProofs := false}) (disch := omega) only [↓reduceIte, go_sem, Int.reduceToNat, Nat.reduceAdd, Nat.reduceLeDiff, Nat.reduceEqDiff, Nat.reduceSub, Nat.reduceMul, reduceCtorEq, hg, hg2, t1]
                refine ⟨_, rfl, ?_⟩
                rw [e2] at hb
                simp only [okP, ← hb, e5]
                simp
              · simp (config := {maxSteps := 2000000, implicitDefEqProofs := false}) (disch := omega) only [↓reduceIte, go_sem, Int.reduceToNat, Nat.reduceAdd, Nat.reduceLeDiff, Nat.reduceEqDiff, Nat.reduceSub, Nat.reduceMul, reduceCtorEq, hg, hg2, t1]
                refine accL (by kernel_rfl) ?_
                simp (config := {maxSteps := 2000000, implicitDefEqProofs := false}) (disch := omega) only [↓reduceIte, go_sem, Int.reduceToNat, Nat.reduceAdd, Nat.reduceLeDiff, Nat.reduceEqDiff, Nat.reduceSub, Nat.reduceMul, reduceCtorEq, hg, hg2, t1]
                refine ⟨_, rfl, ?_⟩
                rw [e2] at hb
                simp only [okP, ← hb, e5]
                simp; omega
          · simp (config := {maxSteps := 2000000, implicitDefEqProofs := false}) (disch := omega) only [↓reduceIte, go_sem, Int.reduceToNat, Nat.reduceAdd, Nat.reduceLeDiff, Nat.reduceEqDiff, Nat.reduceSub, Nat.reduceMul, reduceCtorEq, hg, hg2, t1]
            refine accL (by kernel_rfl) ?_
            simp (config := {maxSteps := 2000000, implicitDefEqProofs := false}) (disch := omega) only [↓reduceIte, go_sem, Int.reduceToNat, Nat.reduceAdd, Nat.reduceLeDiff, Nat.reduceEqDiff, Nat.reduceSub, Nat.reduceMul, reduceCtorEq, hg, hg2, t1]
            refine ⟨_, rfl, ?_⟩
            rw [e2] at hb
            simp only [okP, ← hb]
            simp
        · have hs0 : s = 0 := by omega
          have hpv : prv l s = none := by simp [prv, hs0]
          rw [hpv]
          simp (config := {maxSteps := 2000000, implicitDefEqProofs := false}) (disch := omega) only [↓reduceIte, go_sem, Int.reduceToNat, Nat.reduceAdd, Nat.reduceLeDiff, Nat.reduceEqDiff, Nat.reduceSub, Nat.reduceMul, reduceCtorEq]
          exact ⟨b, rfl, by rw [hb]; rfl⟩
      · rintro b2 hb2
        rw [← hb2] at h2
        simp (config := {maxSteps := 2000000, implicitDefEqProofs := false}) (disch := omega) only [↓reduceIte, go_sem, Int.reduceToNat, Nat.reduceAdd, Nat.reduceLeDiff, Nat.reduceEqDiff, Nat.reduceSub, Nat.reduceMul, reduceCtorEq]
        refine ifB (fun e => ?_) (fun e => ?_)
        · simp (config := {maxSteps := 2000000, implicitDefEqProofs := false}) (disch := omega) only [↓reduceIte, go_sem, Int.reduceToNat, Nat.reduceAdd, Nat.reduceLeDiff, Nat.reduceEqDiff, Nat.reduceSub, Nat.reduceMul, reduceCtorEq]
          exact ⟨s + 1, by simp, ⟨by omega, by simpa [e] using h2⟩, by omega⟩
        · simp (config := {maxSteps := 2000000, implicitDefEqProofs := false}) (disch := omega) only [↓reduceIte, go_sem, Int.reduceToNat, Nat.reduceAdd, Nat.reduceLeDiff, Nat.reduceEqDiff, Nat.reduceSub, Nat.reduceMul, reduceCtorEq]
          exact ⟨by rw [h2, e]; simp, rfl⟩
  · simp (config := {maxSteps := 2000000, implicitDefEqProofs := false}) (disch := omega) only [↓reduceIte, go_sem, Int.reduceToNat, Nat.reduceAdd, Nat.reduceLeDiff, Nat.reduceEqDiff, Nat.reduceSub, Nat.reduceMul, reduceCtorEq]
    rw [List.drop_eq_nil_of_le (by omega)] at h2
    exact ⟨by rw [h2]; rfl, rfl⟩
end Go.Proofs.Ytpmabjkjolhilaa.X
namespace Go.Proofs.Ytpmabjkjolhilaa.X
open Go Go.AM Go.Proofs
attribute [local go_sem ↓] w_skip w_lbl w_ops w_draw w_pre w_post w_alt w_seq w_cond w_block w_join w_loop w_exit w_ret w_scope w_rfunc l_nil l_cons th_n th_e th_r bk_n bk_r bk_e t_nil t_it t_call i_nil i_one i_grp s_nil s_cons c_call e_mv e_nil e_frz o_mov o_bin o_eq o_un o_conv o_len o_slen o_idx o_aix o_fad o_load o_store o_boxp o_boxo o_boxm o_alloc o_alloca o_nilarr o_build o_bslp o_bslo o_slc o_sslc o_slc3 o_sidx o_mkfn o_ext o_pick o_callf o_callb o_appd o_clear o_mxn o_field o_nilc o_make o_buildm o_boxg o_mkif o_tass o_eqs o_callo k_int k_str k_bool k_grb k_grt k_some k_none k_arr k_lens k_lenf k_lenh k_idxs k_idxf k_idxh k_ld k_loadp k_loadr k_loade k_storer k_storee k_oin k_ois k_slcs k_slcf k_slch k_slc3s k_slc3f k_slc3h k_app2 k_apps k_appf k_apph k_cals k_cald k_cali k_cnb k_cna k_esn k_esc k_efn k_efc k_esh b_add b_sub b_mul b_quo b_rem b_and b_or b_xor b_andNot b_eql b_neq b_lss b_leq b_gtr b_geq b_shl b_shr b_seq b_sne b_slt b_sad q_bool q_str q_nil q_nilf u_not u_neg u_xor f_ret f_nor v_r v_c v_reg v_ob v_set v_put v_so v_sn v_pn v_pc g_nil d_nil p_nil m_mv m_fr z_nil z_cons z_an z_ac g_cons d_cons p_cons y_mov y_bin y_eq y_un y_conv y_len y_slen y_idx y_aix y_fad y_load y_store y_boxp y_boxo y_boxm y_alloc y_alloca y_nilarr y_build y_bslp y_bslo y_slc y_sslc y_slc3 y_sidx y_mkfn y_ext y_pick y_callf y_callb y_appd y_clear y_mxn y_field y_nilc y_make y_buildm y_boxg y_mkif y_tass y_eqs y_callo nb_if
attribute [local go_sem] VL_mk VL2_mk If_t If_f If_not If_and If_or If_dt If_df If_et If_ef If_ne Ck_t Ck_h Opt_s ld_a ld_c renL ren keepR renA idxM invL getObs mapOb renOb allNone putAll fzR fzO fz fzL fzOb frzOk upFrom mapR resOne resA cellsOf oneA oneAL isP isPL okSt kRows kParts fillA setAt bor bor0 bor1 bor2 borC borI key0 key1 key2 keysA fillM cellsM cellM unif ptrA ifOk kPartsM getObsM allNoneM zipU scal0 scalar eqC evNil evNilF List.map_cons List.map_nil List.cons_append List.nil_append List.append_nil List.drop_zero List.drop_succ_cons List.drop_nil List.take_succ_cons List.take_zero List.take_nil List.length_cons List.length_nil List.length_map List.getElem?_map Option.map_some Option.map_none Int.toNat_natCast Int.toNat_zero Int.toNat_one Int.natCast_nonneg List.flatMap_cons List.flatMap_nil List.all_cons List.all_nil Bool.and_true Bool.true_and Bool.and_false Bool.false_and Bool.not_true Bool.not_false beq_self_eq_true nb_self all_nil List.forall_mem_cons tk_map tk_app bs_self bs_dec bq_t bq_f Bool.not_not decide_true decide_false Bool.not_not and_self and_true true_and eq_self List.reverse_cons List.reverse_nil List.getElem?_cons_zero List.getElem?_cons_succ cond_true cond_false List.set_cons_zero List.set_cons_succ Nat.zero_add Nat.add_zero if_true if_false ite_true ite_false implies_true wrap64 wrap8
set_option linter.unusedVariables false
set_option linter.unusedSimpArgs false
set_option maxRecDepth 10000
theorem C12 (u : List Int) (x : Int) (hl : u.length < 1000000) : Ctr Try.prog 12 [.sl (u.map encN), .int .i64 x] [] (ret [.bool (u.contains x)]) := by
  apply ctr_b A12_ok rfl (Nat.le_of_ble_eq_true rfl)
  unfold A12
  simp only [initL, Nat.reduceAdd]
  simp (config := {maxSteps := 2000000, implicitDefEqProofs := false}) (disch := omega) only [↓reduceIte, go_sem, Int.reduceToNat, Nat.reduceAdd, Nat.reduceLeDiff, Nat.reduceEqDiff, Nat.reduceSub, Nat.reduceMul, reduceCtorEq]
  refine loopL (σ := Nat) (fun s => ⟨[(0, .sl (u.map encN)), (1, .int .i64 x), (5, .int .i64 s)], []⟩) (fun s => s ≤ u.length ∧ ∀ j, j < s → u[j]! ≠ x) (fun s => u.length - s) 0 (by simp (config := {maxSteps := 2000000, implicitDefEqProofs := false}) (disch := omega) only [↓reduceIte, go_sem, Int.reduceToNat, Nat.reduceAdd, Nat.reduceLeDiff, Nat.reduceEqDiff, Nat.reduceSub, Nat.reduceMul, reduceCtorEq]; rfl) ⟨by omega, fun j hj => by omega⟩ ?_
  rintro s ⟨h1, h2⟩
  simp (config := {maxSteps := 2000000, implicitDefEqProofs := false}) (disch := omega) only [↓reduceIte, go_sem, Int.reduceToNat, Nat.reduceAdd, Nat.reduceLeDiff, Nat.reduceEqDiff, Nat.reduceSub, Nat.reduceMul, reduceCtorEq]
  refine ifD (fun c => ?_) (fun c => ?_)
  · have hs : s < u.length := by omega
    have hg := enc_get hs
    simp (config := {maxSteps := 2000000, implicitDefEqProofs := false}) (disch := omega) only [↓reduceIte, go_sem, Int.reduceToNat, Nat.reduceAdd, Nat.reduceLeDiff, Nat.reduceEqDiff, Nat.reduceSub, Nat.reduceMul, reduceCtorEq, hg]
    refine ifE (fun e => ?_) (fun e => ?_)
    · simp (config := {maxSteps := 2000000, implicitDefEqProofs := false}) (disch := omega) only [↓reduceIte, go_sem, Int.reduceToNat, Nat.reduceAdd, Nat.reduceLeDiff, Nat.reduceEqDiff, Nat.reduceSub, Nat.reduceMul, reduceCtorEq]
      refine ⟨?_, rfl⟩
      have : u.contains x = true := by
        rw [List.contains_iff_mem, ← e]
        simp [hs]
      rw [this]
    · simp (config := {maxSteps := 2000000, implicitDefEqProofs := false}) (disch := omega) only [↓reduceIte, go_sem, Int.reduceToNat, Nat.reduceAdd, Nat.reduceLeDiff, Nat.reduceEqDiff, Nat.reduceSub, Nat.reduceMul, reduceCtorEq]
      refine ⟨s + 1, by simp, ⟨by omega, fun j hj => ?_⟩, by omega⟩
      by_cases hjs : j = s
      · subst hjs; exact e
      · exact h2 j (by omega)
  · simp (config := {maxSteps := 2000000, implicitDefEqProofs := false}) (disch := omega) only [↓reduceIte, go_sem, Int.reduceToNat, Nat.reduceAdd, Nat.reduceLeDiff, Nat.reduceEqDiff, Nat.reduceSub, Nat.reduceMul, reduceCtorEq]
    refine ⟨?_, rfl⟩
    have : u.contains x = false := by
      rw [← Bool.not_eq_true, List.contains_iff_mem]
      intro hm
      obtain ⟨j, hj, e⟩ := List.getElem_of_mem hm
      exact h2 j (by omega) (by simp [hj, e])
    rw [this]
theorem ints_ne {u w : List Int} {j : Nat} (h : u[j]! ≠ w[j]!) : (u == w) = false := by
  rw [beq_eq_false_iff_ne]
  intro e
  rw [e] at h
  exact h rfl
theorem C28 (u w : List Int) (hl : u.length < 1000000) (hw : w.length < 1000000) : Ctr Try.prog 28 [.sl (u.map encN), .sl (w.map encN)] [] (ret [.bool (u == w)]) := by
  apply ctr_b A28_ok rfl (Nat.le_of_ble_eq_true rfl)
  unfold A28
  simp only [initL, Nat.reduceAdd]
  simp (config := {maxSteps := 2000000, implicitDefEqProofs := false}) (disch := omega) only [↓reduceIte, go_sem, Int.reduceToNat, Nat.reduceAdd, Nat.reduceLeDiff, Nat.reduceEqDiff, Nat.reduceSub, Nat.reduceMul, reduceCtorEq]
  refine ifE (fun e => ?_) (fun e => ?_)
  · have he : u.length = w.length := by omega
    simp (config := {maxSteps := 2000000, implicitDefEqProofs := false}) (disch := omega) only [↓reduceIte, go_sem, Int.reduceToNat, Nat.reduceAdd, Nat.reduceLeDiff, Nat.reduceEqDiff, Nat.reduceSub, Nat.reduceMul, reduceCtorEq]
    refine loopL (σ := Nat) (fun s => ⟨[(0, .sl (u.map encN)), (1, .sl (w.map encN)), (5, .int .i64 s)], []⟩) (fun s => s ≤ u.length ∧ ∀ j, j < s → u[j]! = w[j]!) (fun s => u.length - s) 0 (by simp (config := {maxSteps := 2000000, implicitDefEqProofs := false}) (disch := omega) only [↓reduceIte, go_sem, Int.reduceToNat, Nat.reduceAdd, Nat.reduceLeDiff, Nat.reduceEqDiff, Nat.reduceSub, Nat.reduceMul, reduceCtorEq]; rfl) ⟨by omega, fun j hj => by omega⟩ ?_
    rintro s ⟨h1, h2⟩
    simp (config := {maxSteps := 2000000, implicitDefEqProofs := false}) (disch := omega) only [↓reduceIte, go_sem, Int.reduceToNat, Nat.reduceAdd, Nat.reduceLeDiff, Nat.reduceEqDiff, Nat.reduceSub, Nat.reduceMul, reduceCtorEq]
    refine ifD (fun c => ?_) (fun c => ?_)
    · have hs : s < u.length := by omega
      have hg := enc_get hs
      have hg2 := enc_get (show s < w.length by omega)
      simp (config := {maxSteps := 2000000, implicitDefEqProofs := false}) (disch := omega) only [↓reduceIte, go_sem, Int.reduceToNat, Nat.reduceAdd, Nat.reduceLeDiff, Nat.reduceEqDiff, Nat.reduceSub, Nat.reduceMul, reduceCtorEq, hg, hg2]
      refine accL (by kernel_rfl) ?_
      simp (config := {maxSteps := 2000000, implicitDefEqProofs := false}) (disch := omega) only [↓reduceIte, go_sem, Int.reduceToNat, Nat.reduceAdd, Nat.reduceLeDiff, Nat.reduceEqDiff, Nat.reduceSub, Nat.reduceMul, reduceCtorEq]
      refine ifE (fun e => ?_) (fun e => ?_)
      · simp (config := {maxSteps := 2000000, implicitDefEqProofs := false}) (disch := omega) only [↓reduceIte, go_sem, Int.reduceToNat, Nat.reduceAdd, Nat.reduceLeDiff, Nat.reduceEqDiff, Nat.reduceSub, Nat.reduceMul, reduceCtorEq]
        refine ⟨s + 1, by simp, ⟨by omega, fun j hj => ?_⟩, by omega⟩
        by_cases hjs : j = s
        · subst hjs; exact e
        · exact h2 j (by omega)
      · simp (config := {maxSteps := 2000000, implicitDefEqProofs := false}) (disch := omega) only [↓reduceIte, go_sem, Int.reduceToNat, Nat.reduceAdd, Nat.reduceLeDiff, Nat.reduceEqDiff, Nat.reduceSub, Nat.reduceMul, reduceCtorEq]
        exact ⟨by rw [ints_ne e], rfl⟩
    · simp (config := {maxSteps := 2000000, implicitDefEqProofs := false}) (disch := omega) only [↓reduceIte, go_sem, Int.reduceToNat, Nat.reduceAdd, Nat.reduceLeDiff, Nat.reduceEqDiff, Nat.reduceSub, Nat.reduceMul, reduceCtorEq]
      refine ⟨?_, rfl⟩
      have : u = w := List.ext_getElem he fun j h3 h4 => by
        have := h2 j (by omega)
        simpa [h3, h4] using this
      subst this
      simp
  · simp (config := {maxSteps := 2000000, implicitDefEqProofs := false}) (disch := omega) only [↓reduceIte, go_sem, Int.reduceToNat, Nat.reduceAdd, Nat.reduceLeDiff, Nat.reduceEqDiff, Nat.reduceSub, Nat.reduceMul, reduceCtorEq]
    refine ⟨?_, rfl⟩
    have : (u == w) = false := by
      rw [beq_eq_false_iff_ne]
      intro h
      exact e (by rw [h])
    rw [this]
theorem same_ne {u w : List Seg} {j : Nat} (h : u[j]! ≠ w[j]!) : (u == w) = false := by
  rw [beq_eq_false_iff_ne]
  intro e
  rw [e] at h
  exact h rfl
theorem seg_eq (x y : Seg) : (x == y) = ((x.v == y.v) && ((x.fr == y.fr) && ((x.to == y.to) && ((x.loc.kind == y.loc.kind) && ((x.loc.cls == y.loc.cls) && (x.loc.n == y.loc.n)))))) := by
  obtain ⟨v, fr, to, ⟨k, c, n⟩⟩ := x
  obtain ⟨v', fr', to', ⟨k', c', n'⟩⟩ := y
  rw [Bool.eq_iff_iff]
  simp
theorem C23 (u w : List Seg) (hl : u.length < 1000000) (hw : w.length < 1000000) : Ctr Try.prog 23 [.sl (u.map encS), .sl (w.map encS)] [] (ret [.bool (u == w)]) := by
  apply ctr_b A23_ok rfl (Nat.le_of_ble_eq_true rfl)
  unfold A23
  simp only [initL, Nat.reduceAdd]
  simp (config := {maxSteps := 2000000, implicitDefEqProofs := false}) (disch := omega) only [↓reduceIte, go_sem, Int.reduceToNat, Nat.reduceAdd, Nat.reduceLeDiff, Nat.reduceEqDiff, Nat.reduceSub, Nat.reduceMul, reduceCtorEq]
  refine ifE (fun e => ?_) (fun e => ?_)
  · have he : u.length = w.length := by omega
    simp (config := {maxSteps := 2000000, implicitDefEqProofs := false}) (disch := omega) only [↓reduceIte, go_sem, Int.reduceToNat, Nat.reduceAdd, Nat.reduceLeDiff, Nat.reduceEqDiff, Nat.reduceSub, Nat.reduceMul, reduceCtorEq]
    refine loopL (σ := Nat) (fun s => ⟨[(0, .sl (u.map encS)), (1, .sl (w.map encS)), (5, .int .i64 s)], []⟩) (fun s => s ≤ u.length ∧ ∀ j, j < s → u[j]! = w[j]!) (fun s => u.length - s) 0 (by simp (config := {maxSteps := 2000000, implicitDefEqProofs := false}) (disch := omega) only [↓reduceIte, go_sem, Int.reduceToNat, Nat.reduceAdd, Nat.reduceLeDiff, Nat.reduceEqDiff, Nat.reduceSub, Nat.reduceMul, reduceCtorEq]; rfl) ⟨by omega, fun j hj => by omega⟩ ?_
    rintro s ⟨h1, h2⟩
    simp (config := {maxSteps := 2000000, implicitDefEqProofs := false}) (disch := omega) only [↓reduceIte, go_sem, Int.reduceToNat, Nat.reduceAdd, Nat.reduceLeDiff, Nat.reduceEqDiff, Nat.reduceSub, Nat.reduceMul, reduceCtorEq]
    refine ifD (fun c => ?_) (fun c => ?_)
    · have hs : s < u.length := by omega
      have hg := seg_get hs
      have hg2 := seg_get (show s < w.length by omega)
      have hq := seg_eq u[s]! w[s]!
      have hn := @same_ne u w s
      have hh : (u[s]! == w[s]!) = true → u[s]! = w[s]! := fun h => by simpa using h
      have hh2 : (u[s]! == w[s]!) = false → u[s]! ≠ w[s]! := fun h => by simpa using h
      simp only [encS] at hg hg2
      simp (config := {maxSteps := 2000000, implicitDefEqProofs := false}) (disch := omega) only [↓reduceIte, go_sem, Int.reduceToNat, Nat.reduceAdd, Nat.reduceLeDiff, Nat.reduceEqDiff, Nat.reduceSub, Nat.reduceMul, reduceCtorEq, hg, hg2]
      refine accL (by kernel_rfl) ?_
      simp (config := {maxSteps := 2000000, implicitDefEqProofs := false}) (disch := omega) only [↓reduceIte, go_sem, Int.reduceToNat, Nat.reduceAdd, Nat.reduceLeDiff, Nat.reduceEqDiff, Nat.reduceSub, Nat.reduceMul, reduceCtorEq]
      refine ifB (fun e1 => ?_) (fun e1 => ?_)
      · try simp (config := {maxSteps := 2000000, implicitDefEqProofs := false}) (disch := omega) only [↓reduceIte, go_sem, Int.reduceToNat, Nat.reduceAdd, Nat.reduceLeDiff, Nat.reduceEqDiff, Nat.reduceSub, Nat.reduceMul, reduceCtorEq]
        refine ifB (fun e2 => ?_) (fun e2 => ?_)
        · try simp (config := {maxSteps := 2000000, implicitDefEqProofs := false}) (disch := omega) only [↓reduceIte, go_sem, Int.reduceToNat, Nat.reduceAdd, Nat.reduceLeDiff, Nat.reduceEqDiff, Nat.reduceSub, Nat.reduceMul, reduceCtorEq]
          refine ifB (fun e3 => ?_) (fun e3 => ?_)
          · try simp (config := {maxSteps := 2000000, implicitDefEqProofs := false}) (disch := omega) only [↓reduceIte, go_sem, Int.reduceToNat, Nat.reduceAdd, Nat.reduceLeDiff, Nat.reduceEqDiff, Nat.reduceSub, Nat.reduceMul, reduceCtorEq]
            refine ifB (fun e4 => ?_) (fun e4 => ?_)
            · try simp (config := {maxSteps := 2000000, implicitDefEqProofs := false}) (disch := omega) only [↓reduceIte, go_sem, Int.reduceToNat, Nat.reduceAdd, Nat.reduceLeDiff, Nat.reduceEqDiff, Nat.reduceSub, Nat.reduceMul, reduceCtorEq]
              refine ifB (fun e5 => ?_) (fun e5 => ?_)
              · try simp (config := {maxSteps := 2000000, implicitDefEqProofs := false}) (disch := omega) only [↓reduceIte, go_sem, Int.reduceToNat, Nat.reduceAdd, Nat.reduceLeDiff, Nat.reduceEqDiff, Nat.reduceSub, Nat.reduceMul, reduceCtorEq]
                refine ifB (fun e6 => ?_) (fun e6 => ?_)
                · have e : (u[s]! == w[s]!) = true := by rw [hq, e1, e2, e3, e4, e5, e6]; rfl
                  simp (config := {maxSteps := 2000000, implicitDefEqProofs := false}) (disch := omega) only [↓reduceIte, go_sem, Int.reduceToNat, Nat.reduceAdd, Nat.reduceLeDiff, Nat.reduceEqDiff, Nat.reduceSub, Nat.reduceMul, reduceCtorEq]
                  refine ⟨s + 1, by simp, ⟨by omega, fun j hj => ?_⟩, by omega⟩
                  by_cases hjs : j = s
                  · subst hjs; exact hh e
                  · exact h2 j (by omega)
                · have e : (u[s]! == w[s]!) = false := by rw [hq, e1, e2, e3, e4, e5, e6]; rfl
                  simp (config := {maxSteps := 2000000, implicitDefEqProofs := false}) (disch := omega) only [↓reduceIte, go_sem, Int.reduceToNat, Nat.reduceAdd, Nat.reduceLeDiff, Nat.reduceEqDiff, Nat.reduceSub, Nat.reduceMul, reduceCtorEq]
                  exact ⟨by rw [hn (hh2 e)], rfl⟩
              · have e : (u[s]! == w[s]!) = false := by rw [hq, e1, e2, e3, e4, e5]; rfl
                simp (config := {maxSteps := 2000000, implicitDefEqProofs := false}) (disch := omega) only [↓reduceIte, go_sem, Int.reduceToNat, Nat.reduceAdd, Nat.reduceLeDiff, Nat.reduceEqDiff, Nat.reduceSub, Nat.reduceMul, reduceCtorEq]
                exact ⟨by rw [hn (hh2 e)], rfl⟩
            · have e : (u[s]! == w[s]!) = false := by rw [hq, e1, e2, e3, e4]; rfl
              simp (config := {maxSteps := 2000000, implicitDefEqProofs := false}) (disch := omega) only [↓reduceIte, go_sem, Int.reduceToNat, Nat.reduceAdd, Nat.reduceLeDiff, Nat.reduceEqDiff, Nat.reduceSub, Nat.reduceMul, reduceCtorEq]
              exact ⟨by rw [hn (hh2 e)], rfl⟩
          · have e : (u[s]! == w[s]!) = false := by rw [hq, e1, e2, e3]; rfl
            simp (config := {maxSteps := 2000000, implicitDefEqProofs := false}) (disch := omega) only [↓reduceIte, go_sem, Int.reduceToNat, Nat.reduceAdd, Nat.reduceLeDiff, Nat.reduceEqDiff, Nat.reduceSub, Nat.reduceMul, reduceCtorEq]
            exact ⟨by rw [hn (hh2 e)], rfl⟩
        · have e : (u[s]! == w[s]!) = false := by rw [hq, e1, e2]; rfl
          simp (config := {maxSteps := 2000000, implicitDefEqProofs := false}) (disch := omega) only [↓reduceIte, go_sem, Int.reduceToNat, Nat.reduceAdd, Nat.reduceLeDiff, Nat.reduceEqDiff, Nat.reduceSub, Nat.reduceMul, reduceCtorEq]
          exact ⟨by rw [hn (hh2 e)], rfl⟩
      · have e : (u[s]! == w[s]!) = false := by rw [hq, e1]; rfl
        simp (config := {maxSteps := 2000000, implicitDefEqProofs := false}) (disch := omega) only [↓reduceIte, go_sem, Int.reduceToNat, Nat.reduceAdd, Nat.reduceLeDiff, Nat.reduceEqDiff, Nat.reduceSub, Nat.reduceMul, reduceCtorEq]
        exact ⟨by rw [hn (hh2 e)], rfl⟩
    · simp (config := {maxSteps := 2000000, implicitDefEqProofs := false}) (disch := omega) only [↓reduceIte, go_sem, Int.reduceToNat, Nat.reduceAdd, Nat.reduceLeDiff, Nat.reduceEqDiff, Nat.reduceSub, Nat.reduceMul, reduceCtorEq]
      refine ⟨?_, rfl⟩
      have : u = w := List.ext_getElem he fun j h3 h4 => by
        have := h2 j (by omega)
        simpa [h3, h4] using this
      subst this
      simp
  · simp (config := {maxSteps := 2000000, implicitDefEqProofs := false}) (disch := omega) only [↓reduceIte, go_sem, Int.reduceToNat, Nat.reduceAdd, Nat.reduceLeDiff, Nat.reduceEqDiff, Nat.reduceSub, Nat.reduceMul, reduceCtorEq]
    refine ⟨?_, rfl⟩
    have : (u == w) = false := by
      rw [beq_eq_false_iff_ne]
      intro h
      exact e (by rw [h])
    rw [this]
def ofF (l : List Seg) (v : Int) : List Seg := l.filter fun s => s.v == v
theorem C11 (l : List Seg) (v : Int) (hl : l.length < 1000000) : Ctr Try.prog 11 [.sl (l.map encS), .int .i64 v] [] (ret [.sl ((ofF l v).map encS)]) := by
  apply ctr_b A11_ok rfl (Nat.le_of_ble_eq_true rfl)
  unfold A11
  simp only [initL, Nat.reduceAdd]
  simp (config := {maxSteps := 2000000, implicitDefEqProofs := false}) (disch := omega) only [↓reduceIte, go_sem, Int.reduceToNat, Nat.reduceAdd, Nat.reduceLeDiff, Nat.reduceEqDiff, Nat.reduceSub, Nat.reduceMul, reduceCtorEq]
  refine loopL (σ := Nat) (fun s => ⟨[(1, .int .i64 v), (5, .hs 5 (ofF (l.take s) v).length 0 (ofF (l.take s) v).length), (8, .sl (l.map encS)), (9, .int .i64 l.length), (10, .int .i64 s)], [(5, .arr (ofF (l.take s) v).length 6 ((ofF (l.take s) v).map encS))]⟩)
    (fun s => s ≤ l.length) (fun s => l.length - s) 0 (by simp (config := {maxSteps := 2000000, implicitDefEqProofs := false}) (disch := omega) only [↓reduceIte, go_sem, Int.reduceToNat, Nat.reduceAdd, Nat.reduceLeDiff, Nat.reduceEqDiff, Nat.reduceSub, Nat.reduceMul, reduceCtorEq]; rfl) (Nat.zero_le _) ?_
  rintro s h1
  have hfl := List.length_filter_le (fun s : Seg => s.v == v) (l.take s)
  rw [List.length_take] at hfl
  have hfl' : (ofF (l.take s) v).length ≤ s := by unfold ofF; omega
  simp (config := {maxSteps := 2000000, implicitDefEqProofs := false}) (disch := omega) only [↓reduceIte, go_sem, Int.reduceToNat, Nat.reduceAdd, Nat.reduceLeDiff, Nat.reduceEqDiff, Nat.reduceSub, Nat.reduceMul, reduceCtorEq]
  refine ifD (fun c => ?_) (fun c => ?_)
  · have hs : s < l.length := by omega
    have hg := seg_get hs
    have ht : l.take (s + 1) = l.take s ++ [l[s]!] := by rw [List.take_add_one]; simp [hs]
    generalize l[s]! = x at hg ht
    simp only [encS] at hg
    simp (config := {maxSteps := 2000000, implicitDefEqProofs := false}) (disch := omega) only [↓reduceIte, go_sem, Int.reduceToNat, Nat.reduceAdd, Nat.reduceLeDiff, Nat.reduceEqDiff, Nat.reduceSub, Nat.reduceMul, reduceCtorEq, hg]
    refine ifE (fun e => ?_) (fun e => ?_)
    · simp (config := {maxSteps := 2000000, implicitDefEqProofs := false}) (disch := omega) only [↓reduceIte, go_sem, Int.reduceToNat, Nat.reduceAdd, Nat.reduceLeDiff, Nat.reduceEqDiff, Nat.reduceSub, Nat.reduceMul, reduceCtorEq]
      refine ⟨s + 1, ?_, by omega, by omega⟩
      rw [ht]
      simp [ofF, e, encS]
    · simp (config := {maxSteps := 2000000, implicitDefEqProofs := false}) (disch := omega) only [↓reduceIte, go_sem, Int.reduceToNat, Nat.reduceAdd, Nat.reduceLeDiff, Nat.reduceEqDiff, Nat.reduceSub, Nat.reduceMul, reduceCtorEq]
      refine ⟨s + 1, ?_, by omega, by omega⟩
      rw [ht]
      simp [ofF, e]
  · have hs : s = l.length := by omega
    subst hs
    simp (config := {maxSteps := 2000000, implicitDefEqProofs := false}) (disch := omega) only [↓reduceIte, go_sem, Int.reduceToNat, Nat.reduceAdd, Nat.reduceLeDiff, Nat.reduceEqDiff, Nat.reduceSub, Nat.reduceMul, reduceCtorEq]
    refine ⟨?_, rfl⟩
    rw [List.take_length]
def nxtB (a b : Seg) : Bool := a.v == b.v && a.to == b.fr
theorem C29 (a b : Seg) : Ctr Try.prog 29 [.agg (encS a), .agg (encS b)] [] (ret [.bool (nxtB a b)]) := by
  apply ctr_b A29_ok rfl (Nat.le_of_ble_eq_true rfl)
  unfold A29
  simp only [initL, Nat.reduceAdd, encS]
  simp (config := {maxSteps := 2000000, implicitDefEqProofs := false}) (disch := omega) only [↓reduceIte, go_sem, Int.reduceToNat, Nat.reduceAdd, Nat.reduceLeDiff, Nat.reduceEqDiff, Nat.reduceSub, Nat.reduceMul, reduceCtorEq]
  refine ifE (fun e => ?_) (fun e => ?_)
  · simp (config := {maxSteps := 2000000, implicitDefEqProofs := false}) (disch := omega) only [↓reduceIte, go_sem, Int.reduceToNat, Nat.reduceAdd, Nat.reduceLeDiff, Nat.reduceEqDiff, Nat.reduceSub, Nat.reduceMul, reduceCtorEq]
    exact ⟨by simp [nxtB, e], rfl⟩
  · simp (config := {maxSteps := 2000000, implicitDefEqProofs := false}) (disch := omega) only [↓reduceIte, go_sem, Int.reduceToNat, Nat.reduceAdd, Nat.reduceLeDiff, Nat.reduceEqDiff, Nat.reduceSub, Nat.reduceMul, reduceCtorEq]
    exact ⟨by simp [nxtB, e], rfl⟩
/-! Spans. -/
def encP (p : Int × Int) : List AV := [.int .i64 p.1, .int .i64 p.2]
def spF : Option (Int × Int) → List Seg → List (Int × Int)
  | none, [] => []
  | some a, [] => [a]
  | none, s :: l => spF (some (s.fr, s.to)) l
  | some a, s :: l => if a.2 = s.fr then spF (some (a.1, s.to)) l else a :: spF (some (s.fr, s.to)) l
theorem map_last {α β : Type} (f : α → β) (l : List α) (x : α) (y : β) : ((l ++ [x]).map f).set l.length y = l.map f ++ [y] := by
  rw [List.map_append, List.set_append_right _ _ (by simp)]
  simp
theorem get_last {α β : Type} (f : α → β) (l : List α) (x : α) : Option.map f (l ++ [x])[l.length]? = some (f x) := by simp
def outP (d : List (Int × Int)) (a : Option (Int × Int)) : List (Int × Int) := d ++ a.toList
theorem C19 (l : List Seg) (v : Int) (hl : l.length < 1000000) : Ctr Try.prog 19 [.sl (l.map encS), .int .i64 v] [] (ret [.sl ((spF none (ofF l v)).map encP)]) := by
  have hfl := List.length_filter_le (fun s : Seg => s.v == v) l
  have hol : (ofF l v).length < 1000000 := by unfold ofF; omega
  apply ctr_b A19_ok rfl (Nat.le_of_ble_eq_true rfl)
  unfold A19
  simp only [initL, Nat.reduceAdd]
  simp (config := {maxSteps := 2000000, implicitDefEqProofs := false}) (disch := omega) only [↓reduceIte, go_sem, Int.reduceToNat, Nat.reduceAdd, Nat.reduceLeDiff, Nat.reduceEqDiff, Nat.reduceSub, Nat.reduceMul, reduceCtorEq]
  refine callL (C11 l v hl) ?_
  generalize ofF l v = o at hol
  simp (config := {maxSteps := 2000000, implicitDefEqProofs := false}) (disch := omega) only [↓reduceIte, go_sem, Int.reduceToNat, Nat.reduceAdd, Nat.reduceLeDiff, Nat.reduceEqDiff, Nat.reduceSub, Nat.reduceMul, reduceCtorEq]
  refine loopL (σ := (Nat × List (Int × Int)) × Option (Int × Int)) (fun s => ⟨[(5, .hs 5 (outP s.1.2 s.2).length 0 (outP s.1.2 s.2).length), (11, .sl (o.map encS)), (12, .int .i64 o.length), (13, .int .i64 s.1.1)], [(5, .arr (outP s.1.2 s.2).length 2 ((outP s.1.2 s.2).map encP))]⟩)
    (fun s => s.1.1 ≤ o.length ∧ s.1.2.length ≤ s.1.1 ∧ (s.2 = none → s.1.2 = []) ∧ spF none o = s.1.2 ++ spF s.2 (o.drop s.1.1)) (fun s => o.length - s.1.1) ((0, []), none) (by simp (config := {maxSteps := 2000000, implicitDefEqProofs := false}) (disch := omega) only [↓reduceIte, go_sem, Int.reduceToNat, Nat.reduceAdd, Nat.reduceLeDiff, Nat.reduceEqDiff, Nat.reduceSub, Nat.reduceMul, reduceCtorEq]; rfl) ⟨by simp, by simp, fun _ => rfl, rfl⟩ ?_
  rintro ⟨⟨i, d⟩, a⟩ ⟨h1, h2, h3, h4⟩
  simp only at h1 h2 h3 h4
  simp (config := {maxSteps := 2000000, implicitDefEqProofs := false}) (disch := omega) only [↓reduceIte, go_sem, Int.reduceToNat, Nat.reduceAdd, Nat.reduceLeDiff, Nat.reduceEqDiff, Nat.reduceSub, Nat.reduceMul, reduceCtorEq]
  refine ifD (fun c => ?_) (fun c => ?_)
  · have hi : i < o.length := by omega
    have hg := seg_get hi
    rw [drop_bang hi] at h4
    generalize o[i]! = x at hg h4
    simp only [encS] at hg
    cases a with
    | none =>
      have hd := h3 rfl
      subst hd
      simp only [outP, Option.toList_none, List.append_nil, List.length_nil, List.map_nil]
      simp (config := {maxSteps := 2000000, implicitDefEqProofs := false}) (disch := omega) only [↓reduceIte, go_sem, Int.reduceToNat, Nat.reduceAdd, Nat.reduceLeDiff, Nat.reduceEqDiff, Nat.reduceSub, Nat.reduceMul, reduceCtorEq, hg]
      refine accL (by kernel_rfl) ?_
      simp (config := {maxSteps := 2000000, implicitDefEqProofs := false}) (disch := omega) only [↓reduceIte, go_sem, Int.reduceToNat, Nat.reduceAdd, Nat.reduceLeDiff, Nat.reduceEqDiff, Nat.reduceSub, Nat.reduceMul, reduceCtorEq, hg]
      exact ⟨((i + 1, []), some (x.fr, x.to)), by simp [outP, encP], ⟨by simp only; omega, by simp, (fun h => by cases h), by simpa [spF] using h4⟩, by simp only; omega⟩
    | some q =>
      have e1 := get_last encP d q
      have e2 := fun y => map_last encP d q y
      have t1 : (((d.length + 1 : Nat) : Int) - 1).toNat = d.length := by omega
      have t2 : (d ++ [q]).length = d.length + 1 := by simp
      simp only [encP] at e1
      simp only [outP, Option.toList_some, t2]
      simp (config := {maxSteps := 2000000, implicitDefEqProofs := false}) (disch := omega) only [↓reduceIte, go_sem, Int.reduceToNat, Nat.reduceAdd, Nat.reduceLeDiff, Nat.reduceEqDiff, Nat.reduceSub, Nat.reduceMul, reduceCtorEq, hg, e1, t1, t2]
      refine accL (by kernel_rfl) ?_
      simp (config := {maxSteps := 2000000, implicitDefEqProofs := false}) (disch := omega) only [↓reduceIte, go_sem, Int.reduceToNat, Nat.reduceAdd, Nat.reduceLeDiff, Nat.reduceEqDiff, Nat.reduceSub, Nat.reduceMul, reduceCtorEq, hg, e1, t1, t2]
      refine ifE (fun e => ?_) (fun e => ?_)
      · simp (config := {maxSteps := 2000000, implicitDefEqProofs := false}) (disch := omega) only [↓reduceIte, go_sem, Int.reduceToNat, Nat.reduceAdd, Nat.reduceLeDiff, Nat.reduceEqDiff, Nat.reduceSub, Nat.reduceMul, reduceCtorEq, hg, e1, t1, t2, e2]
        refine accL (by kernel_rfl) ?_
        simp (config := {maxSteps := 2000000, implicitDefEqProofs := false}) (disch := omega) only [↓reduceIte, go_sem, Int.reduceToNat, Nat.reduceAdd, Nat.reduceLeDiff, Nat.reduceEqDiff, Nat.reduceSub, Nat.reduceMul, reduceCtorEq, hg, e1, t1, t2, e2]
        refine ⟨((i + 1, d), some (q.1, x.to)), by simp [outP, encP], ⟨by simp only; omega, by simp only; omega, (fun h => by cases h), ?_⟩, by simp only; omega⟩
        rw [spF, if_pos e] at h4
        exact h4
      · simp (config := {maxSteps := 2000000, implicitDefEqProofs := false}) (disch := omega) only [↓reduceIte, go_sem, Int.reduceToNat, Nat.reduceAdd, Nat.reduceLeDiff, Nat.reduceEqDiff, Nat.reduceSub, Nat.reduceMul, reduceCtorEq, hg, e1, t1, t2]
        refine ⟨((i + 1, d ++ [q]), some (x.fr, x.to)), by simp [outP, encP], ⟨by simp only; omega, by simp only [t2]; omega, (fun h => by cases h), ?_⟩, by simp only; omega⟩
        rw [spF, if_neg e] at h4
        rw [h4]
        simp
  · have hi : i = o.length := by omega
    subst hi
    rw [List.drop_length] at h4
    simp (config := {maxSteps := 2000000, implicitDefEqProofs := false}) (disch := omega) only [↓reduceIte, go_sem, Int.reduceToNat, Nat.reduceAdd, Nat.reduceLeDiff, Nat.reduceEqDiff, Nat.reduceSub, Nat.reduceMul, reduceCtorEq]
    refine ⟨?_, rfl⟩
    rw [h4]
    cases a <;> simp [outP, spF]
theorem of_drop {l : List Seg} {i : Nat} (v : Int) (h : i < l.length) : ofF (l.drop i) v = if l[i]!.v = v then l[i]! :: ofF (l.drop (i + 1)) v else ofF (l.drop (i + 1)) v := by
  rw [drop_bang h]
  unfold ofF
  rw [List.filter_cons]
  by_cases e : l[i]!.v = v
  · rw [if_pos e, if_pos (by simpa using e)]
  · rw [if_neg e, if_neg (by simpa using e)]
theorem C20 (l : List Seg) (v : Int) (hl : l.length < 1000000) : Ctr Try.prog 20 [.sl (l.map encS), .int .i64 v] [] (ret [.sl ((spF none (ofF l v)).map encP)]) := by
  apply ctr_b A20_ok rfl (Nat.le_of_ble_eq_true rfl)
  unfold A20
  simp only [initL, Nat.reduceAdd]
  simp (config := {maxSteps := 2000000, implicitDefEqProofs := false}) (disch := omega) only [↓reduceIte, go_sem, Int.reduceToNat, Nat.reduceAdd, Nat.reduceLeDiff, Nat.reduceEqDiff, Nat.reduceSub, Nat.reduceMul, reduceCtorEq]
  refine loopL (σ := (Nat × List (Int × Int)) × Option (Int × Int)) (fun s => ⟨[(0, .sl (l.map encS)), (1, .int .i64 v), (5, .hs 5 (outP s.1.2 s.2).length 0 (outP s.1.2 s.2).length), (6, .int .i64 s.1.1)], [(5, .arr (outP s.1.2 s.2).length 2 ((outP s.1.2 s.2).map encP))]⟩)
    (fun s => s.1.1 ≤ l.length ∧ s.1.2.length ≤ s.1.1 ∧ (s.2 = none → s.1.2 = []) ∧ spF none (ofF l v) = s.1.2 ++ spF s.2 (ofF (l.drop s.1.1) v)) (fun s => l.length - s.1.1) ((0, []), none) (by simp (config := {maxSteps := 2000000, implicitDefEqProofs := false}) (disch := omega) only [↓reduceIte, go_sem, Int.reduceToNat, Nat.reduceAdd, Nat.reduceLeDiff, Nat.reduceEqDiff, Nat.reduceSub, Nat.reduceMul, reduceCtorEq]; rfl) ⟨by simp, by simp, fun _ => rfl, rfl⟩ ?_
  rintro ⟨⟨i, d⟩, a⟩ ⟨h1, h2, h3, h4⟩
  simp only at h1 h2 h3 h4
  simp (config := {maxSteps := 2000000, implicitDefEqProofs := false}) (disch := omega) only [↓reduceIte, go_sem, Int.reduceToNat, Nat.reduceAdd, Nat.reduceLeDiff, Nat.reduceEqDiff, Nat.reduceSub, Nat.reduceMul, reduceCtorEq]
  refine ifD (fun c => ?_) (fun c => ?_)
  · have hi : i < l.length := by omega
    have hg := seg_get hi
    rw [of_drop v hi] at h4
    generalize l[i]! = x at hg h4
    simp only [encS] at hg
    simp (config := {maxSteps := 2000000, implicitDefEqProofs := false}) (disch := omega) only [↓reduceIte, go_sem, Int.reduceToNat, Nat.reduceAdd, Nat.reduceLeDiff, Nat.reduceEqDiff, Nat.reduceSub, Nat.reduceMul, reduceCtorEq, hg]
    refine ifE (fun ev => ?_) (fun ev => ?_)
    · rw [if_pos ev] at h4
      cases a with
      | none =>
        have hd := h3 rfl
        subst hd
        simp only [outP, Option.toList_none, List.append_nil, List.length_nil, List.map_nil]
        simp (config := {maxSteps := 2000000, implicitDefEqProofs := false}) (disch := omega) only [↓reduceIte, go_sem, Int.reduceToNat, Nat.reduceAdd, Nat.reduceLeDiff, Nat.reduceEqDiff, Nat.reduceSub, Nat.reduceMul, reduceCtorEq, hg]
        refine accL (by kernel_rfl) ?_
        simp (config := {maxSteps := 2000000, implicitDefEqProofs := false}) (disch := omega) only [↓reduceIte, go_sem, Int.reduceToNat, Nat.reduceAdd, Nat.reduceLeDiff, Nat.reduceEqDiff, Nat.reduceSub, Nat.reduceMul, reduceCtorEq, hg]
        refine accL (by kernel_rfl) ?_
        simp (config := {maxSteps := 2000000, implicitDefEqProofs := false}) (disch := omega) only [↓reduceIte, go_sem, Int.reduceToNat, Nat.reduceAdd, Nat.reduceLeDiff, Nat.reduceEqDiff, Nat.reduceSub, Nat.reduceMul, reduceCtorEq, hg]
        exact ⟨((i + 1, []), some (x.fr, x.to)), by simp [outP, encP], ⟨by simp only; omega, by simp, (fun h => by cases h), by simpa [spF] using h4⟩, by simp only; omega⟩
      | some q =>
        have e1 := get_last encP d q
        have e2 := fun y => map_last encP d q y
        have t1 : (((d.length + 1 : Nat) : Int) - 1).toNat = d.length := by omega
        have t2 : (d ++ [q]).length = d.length + 1 := by simp
        simp only [encP] at e1
        simp only [outP, Option.toList_some, t2]
        simp (config := {maxSteps := 2000000, implicitDefEqProofs := false}) (disch := omega) only [↓reduceIte, go_sem, Int.reduceToNat, Nat.reduceAdd, Nat.reduceLeDiff, Nat.reduceEqDiff, Nat.reduceSub, Nat.reduceMul, reduceCtorEq, hg, e1, t1, t2]
        refine accL (by kernel_rfl) ?_
        simp (config := {maxSteps := 2000000, implicitDefEqProofs := false}) (disch := omega) only [↓reduceIte, go_sem, Int.reduceToNat, Nat.reduceAdd, Nat.reduceLeDiff, Nat.reduceEqDiff, Nat.reduceSub, Nat.reduceMul, reduceCtorEq, hg, e1, t1, t2]
        refine ifE (fun e => ?_) (fun e => ?_)
        · simp (config := {maxSteps := 2000000, implicitDefEqProofs := false}) (disch := omega) only [↓reduceIte, go_sem, Int.reduceToNat, Nat.reduceAdd, Nat.reduceLeDiff, Nat.reduceEqDiff, Nat.reduceSub, Nat.reduceMul, reduceCtorEq, hg, e1, t1, t2, e2]
          refine accL (by kernel_rfl) ?_
          simp (config := {maxSteps := 2000000, implicitDefEqProofs := false}) (disch := omega) only [↓reduceIte, go_sem, Int.reduceToNat, Nat.reduceAdd, Nat.reduceLeDiff, Nat.reduceEqDiff, Nat.reduceSub, Nat.reduceMul, reduceCtorEq, hg, e1, t1, t2, e2]
          refine ⟨((i + 1, d), some (q.1, x.to)), by simp [outP, encP], ⟨by simp only; omega, by simp only; omega, (fun h => by cases h), ?_⟩, by simp only; omega⟩
          rw [spF, if_pos e] at h4
          exact h4
        · simp (config := {maxSteps := 2000000, implicitDefEqProofs := false}) (disch := omega) only [↓reduceIte, go_sem, Int.reduceToNat, Nat.reduceAdd, Nat.reduceLeDiff, Nat.reduceEqDiff, Nat.reduceSub, Nat.reduceMul, reduceCtorEq, hg, e1, t1, t2]
          refine accL (by kernel_rfl) ?_
          simp (config := {maxSteps := 2000000, implicitDefEqProofs := false}) (disch := omega) only [↓reduceIte, go_sem, Int.reduceToNat, Nat.reduceAdd, Nat.reduceLeDiff, Nat.reduceEqDiff, Nat.reduceSub, Nat.reduceMul, reduceCtorEq, hg, e1, t1, t2]
          refine ⟨((i + 1, d ++ [q]), some (x.fr, x.to)), by simp [outP, encP], ⟨by simp only; omega, by simp only [t2]; omega, (fun h => by cases h), ?_⟩, by simp only; omega⟩
          rw [spF, if_neg e] at h4
          rw [h4]
          simp
    · rw [if_neg ev] at h4
      simp (config := {maxSteps := 2000000, implicitDefEqProofs := false}) (disch := omega) only [↓reduceIte, go_sem, Int.reduceToNat, Nat.reduceAdd, Nat.reduceLeDiff, Nat.reduceEqDiff, Nat.reduceSub, Nat.reduceMul, reduceCtorEq]
      exact ⟨((i + 1, d), a), by simp, ⟨by simp only; omega, by simp only; omega, h3, h4⟩, by simp only; omega⟩
  · have hi : i = l.length := by omega
    subst hi
    rw [List.drop_length] at h4
    simp (config := {maxSteps := 2000000, implicitDefEqProofs := false}) (disch := omega) only [↓reduceIte, go_sem, Int.reduceToNat, Nat.reduceAdd, Nat.reduceLeDiff, Nat.reduceEqDiff, Nat.reduceSub, Nat.reduceMul, reduceCtorEq]
    refine ⟨?_, rfl⟩
    rw [h4]
    cases a <;> simp [outP, spF, ofF]
theorem encP_get {u : List (Int × Int)} {i : Nat} (h : i < u.length) : Option.map encP u[i]? = some (encP u[i]!) := by simp [h]
theorem pairs_ne {u w : List (Int × Int)} {j : Nat} (h : u[j]! ≠ w[j]!) : (u == w) = false := by
  rw [beq_eq_false_iff_ne]
  intro e
  rw [e] at h
  exact h rfl
theorem pair_eq (x y : Int × Int) : (x == y) = ((x.1 == y.1) && (x.2 == y.2)) := rfl
theorem C18 (u w : List (Int × Int)) (hl : u.length < 1000000) (hw : w.length < 1000000) : Ctr Try.prog 18 [.sl (u.map encP), .sl (w.map encP)] [] (ret [.bool (u == w)]) := by
  apply ctr_b A18_ok rfl (Nat.le_of_ble_eq_true rfl)
  unfold A18
  simp only [initL, Nat.reduceAdd]
  simp (config := {maxSteps := 2000000, implicitDefEqProofs := false}) (disch := omega) only [↓reduceIte, go_sem, Int.reduceToNat, Nat.reduceAdd, Nat.reduceLeDiff, Nat.reduceEqDiff, Nat.reduceSub, Nat.reduceMul, reduceCtorEq]
  refine ifE (fun e => ?_) (fun e => ?_)
  · have he : u.length = w.length := by omega
    simp (config := {maxSteps := 2000000, implicitDefEqProofs := false}) (disch := omega) only [↓reduceIte, go_sem, Int.reduceToNat, Nat.reduceAdd, Nat.reduceLeDiff, Nat.reduceEqDiff, Nat.reduceSub, Nat.reduceMul, reduceCtorEq]
    refine loopL (σ := Nat) (fun s => ⟨[(0, .sl (u.map encP)), (1, .sl (w.map encP)), (5, .int .i64 s)], []⟩) (fun s => s ≤ u.length ∧ ∀ j, j < s → u[j]! = w[j]!) (fun s => u.length - s) 0 (by simp (config := {maxSteps := 2000000, implicitDefEqProofs := false}) (disch := omega) only [↓reduceIte, go_sem, Int.reduceToNat, Nat.reduceAdd, Nat.reduceLeDiff, Nat.reduceEqDiff, Nat.reduceSub, Nat.reduceMul, reduceCtorEq]; rfl) ⟨by omega, fun j hj => by omega⟩ ?_
    rintro s ⟨h1, h2⟩
    simp (config := {maxSteps := 2000000, implicitDefEqProofs := false}) (disch := omega) only [↓reduceIte, go_sem, Int.reduceToNat, Nat.reduceAdd, Nat.reduceLeDiff, Nat.reduceEqDiff, Nat.reduceSub, Nat.reduceMul, reduceCtorEq]
    refine ifD (fun c => ?_) (fun c => ?_)
    · have hs : s < u.length := by omega
      have hg := encP_get hs
      have hg2 := encP_get (show s < w.length by omega)
      have hq := pair_eq u[s]! w[s]!
      have hn := @pairs_ne u w s
      have hh : (u[s]! == w[s]!) = true → u[s]! = w[s]! := fun h => by simpa using h
      have hh2 : (u[s]! == w[s]!) = false → u[s]! ≠ w[s]! := fun h => by simpa using h
      simp only [encP] at hg hg2
      simp (config := {maxSteps := 2000000, implicitDefEqProofs := false}) (disch := omega) only [↓reduceIte, go_sem, Int.reduceToNat, Nat.reduceAdd, Nat.reduceLeDiff, Nat.reduceEqDiff, Nat.reduceSub, Nat.reduceMul, reduceCtorEq, hg, hg2]
      refine accL (by kernel_rfl) ?_
      simp (config := {maxSteps := 2000000, implicitDefEqProofs := false}) (disch := omega) only [↓reduceIte, go_sem, Int.reduceToNat, Nat.reduceAdd, Nat.reduceLeDiff, Nat.reduceEqDiff, Nat.reduceSub, Nat.reduceMul, reduceCtorEq]
      refine ifB (fun e1 => ?_) (fun e1 => ?_)
      · try simp (config := {maxSteps := 2000000, implicitDefEqProofs := false}) (disch := omega) only [↓reduceIte, go_sem, Int.reduceToNat, Nat.reduceAdd, Nat.reduceLeDiff, Nat.reduceEqDiff, Nat.reduceSub, Nat.reduceMul, reduceCtorEq]
        refine ifB (fun e2 => ?_) (fun e2 => ?_)
        · have e : (u[s]! == w[s]!) = true := by rw [hq, e1, e2]; rfl
          simp (config := {maxSteps := 2000000, implicitDefEqProofs := false}) (disch := omega) only [↓reduceIte, go_sem, Int.reduceToNat, Nat.reduceAdd, Nat.reduceLeDiff, Nat.reduceEqDiff, Nat.reduceSub, Nat.reduceMul, reduceCtorEq]
          refine ⟨s + 1, by simp, ⟨by omega, fun j hj => ?_⟩, by omega⟩
          by_cases hjs : j = s
          · subst hjs; exact hh e
          · exact h2 j (by omega)
        · have e : (u[s]! == w[s]!) = false := by rw [hq, e1, e2]; rfl
          simp (config := {maxSteps := 2000000, implicitDefEqProofs := false}) (disch := omega) only [↓reduceIte, go_sem, Int.reduceToNat, Nat.reduceAdd, Nat.reduceLeDiff, Nat.reduceEqDiff, Nat.reduceSub, Nat.reduceMul, reduceCtorEq]
          exact ⟨by rw [hn (hh2 e)], rfl⟩
      · have e : (u[s]! == w[s]!) = false := by rw [hq, e1]; rfl
        simp (config := {maxSteps := 2000000, implicitDefEqProofs := false}) (disch := omega) only [↓reduceIte, go_sem, Int.reduceToNat, Nat.reduceAdd, Nat.reduceLeDiff, Nat.reduceEqDiff, Nat.reduceSub, Nat.reduceMul, reduceCtorEq]
        exact ⟨by rw [hn (hh2 e)], rfl⟩
    · simp (config := {maxSteps := 2000000, implicitDefEqProofs := false}) (disch := omega) only [↓reduceIte, go_sem, Int.reduceToNat, Nat.reduceAdd, Nat.reduceLeDiff, Nat.reduceEqDiff, Nat.reduceSub, Nat.reduceMul, reduceCtorEq]
      refine ⟨?_, rfl⟩
      have : u = w := List.ext_getElem he fun j h3 h4 => by
        have := h2 j (by omega)
        simpa [h3, h4] using this
      subst this
      simp
  · simp (config := {maxSteps := 2000000, implicitDefEqProofs := false}) (disch := omega) only [↓reduceIte, go_sem, Int.reduceToNat, Nat.reduceAdd, Nat.reduceLeDiff, Nat.reduceEqDiff, Nat.reduceSub, Nat.reduceMul, reduceCtorEq]
    refine ⟨?_, rfl⟩
    have : (u == w) = false := by
      rw [beq_eq_false_iff_ne]
      intro h
      exact e (by rw [h])
    rw [this]
end Go.Proofs.Ytpmabjkjolhilaa.X
namespace Go.Proofs.Ytpmabjkjolhilaa.X
open Go Go.AM Go.Proofs
attribute [local go_sem ↓] w_skip w_lbl w_ops w_draw w_pre w_post w_alt w_seq w_cond w_block w_join w_loop w_exit w_ret w_scope w_rfunc l_nil l_cons th_n th_e th_r bk_n bk_r bk_e t_nil t_it t_call i_nil i_one i_grp s_nil s_cons c_call e_mv e_nil e_frz o_mov o_bin o_eq o_un o_conv o_len o_slen o_idx o_aix o_fad o_load o_store o_boxp o_boxo o_boxm o_alloc o_alloca o_nilarr o_build o_bslp o_bslo o_slc o_sslc o_slc3 o_sidx o_mkfn o_ext o_pick o_callf o_callb o_appd o_clear o_mxn o_field o_nilc o_make o_buildm o_boxg o_mkif o_tass o_eqs o_callo k_int k_str k_bool k_grb k_grt k_some k_none k_arr k_lens k_lenf k_lenh k_idxs k_idxf k_idxh k_ld k_loadp k_loadr k_loade k_storer k_storee k_oin k_ois k_slcs k_slcf k_slch k_slc3s k_slc3f k_slc3h k_app2 k_apps k_appf k_apph k_cals k_cald k_cali k_cnb k_cna k_esn k_esc k_efn k_efc k_esh b_add b_sub b_mul b_quo b_rem b_and b_or b_xor b_andNot b_eql b_neq b_lss b_leq b_gtr b_geq b_shl b_shr b_seq b_sne b_slt b_sad q_bool q_str q_nil q_nilf u_not u_neg u_xor f_ret f_nor v_r v_c v_reg v_ob v_set v_put v_so v_sn v_pn v_pc g_nil d_nil p_nil m_mv m_fr z_nil z_cons z_an z_ac g_cons d_cons p_cons y_mov y_bin y_eq y_un y_conv y_len y_slen y_idx y_aix y_fad y_load y_store y_boxp y_boxo y_boxm y_alloc y_alloca y_nilarr y_build y_bslp y_bslo y_slc y_sslc y_slc3 y_sidx y_mkfn y_ext y_pick y_callf y_callb y_appd y_clear y_mxn y_field y_nilc y_make y_buildm y_boxg y_mkif y_tass y_eqs y_callo nb_if
attribute [local go_sem] VL_mk VL2_mk If_t If_f If_not If_and If_or If_dt If_df If_et If_ef If_ne Ck_t Ck_h Opt_s ld_a ld_c renL ren keepR renA idxM invL getObs mapOb renOb allNone putAll fzR fzO fz fzL fzOb frzOk upFrom mapR resOne resA cellsOf oneA oneAL isP isPL okSt kRows kParts fillA setAt bor bor0 bor1 bor2 borC borI key0 key1 key2 keysA fillM cellsM cellM unif ptrA ifOk kPartsM getObsM allNoneM zipU scal0 scalar eqC evNil evNilF List.map_cons List.map_nil List.cons_append List.nil_append List.append_nil List.drop_zero List.drop_succ_cons List.drop_nil List.take_succ_cons List.take_zero List.take_nil List.length_cons List.length_nil List.length_map List.getElem?_map Option.map_some Option.map_none Int.toNat_natCast Int.toNat_zero Int.toNat_one Int.natCast_nonneg List.flatMap_cons List.flatMap_nil List.all_cons List.all_nil Bool.and_true Bool.true_and Bool.and_false Bool.false_and Bool.not_true Bool.not_false beq_self_eq_true nb_self all_nil List.forall_mem_cons tk_map tk_app bs_self bs_dec bq_t bq_f Bool.not_not decide_true decide_false Bool.not_not and_self and_true true_and eq_self List.reverse_cons List.reverse_nil List.getElem?_cons_zero List.getElem?_cons_succ cond_true cond_false List.set_cons_zero List.set_cons_succ Nat.zero_add Nat.add_zero if_true if_false ite_true ite_false implies_true wrap64 wrap8
set_option linter.unusedVariables false
set_option linter.unusedSimpArgs false
set_option maxRecDepth 10000
def ren189 : Go.Shelf.Ren := ⟨fun | 189 => 32 | 125 => 40 | 257 => 39 | 128 => 57 | 129 => 58 | 294 => 48 | 295 => 49 | 296 => 50 | 297 => 51 | 298 => 52 | 299 => 53 | 216 => 54 | 300 => 55 | 301 => 56 | 328 => 63 | 329 => 64 | 330 => 65 | 331 => 66 | 332 => 67 | 215 => 62 | 343 => 76 | n => n, fun | 28 => 31 | 3 => 3 | 46 => 68 | 0 => 0 | 51 => 84 | 53 => 86 | 4 => 4 | 183 => 76 | 182 => 75 | 131 => 81 | 5 => 5 | 9 => 9 | 218 => 90 | 222 => 94 | 228 => 101 | 229 => 102 | n => n, fun x => x⟩
theorem lays189 : Lays.n189 Try.prog ren189 where
  mixed := by kernel_rfl
  f125 := Eq.trans Try.func40 (congrArg some (by kernel_rfl))
  f128 := Eq.trans Try.func57 (congrArg some (by kernel_rfl))
  f129 := Eq.trans Try.func58 (congrArg some (by kernel_rfl))
  f189 := Eq.trans Try.func32 (congrArg some (by kernel_rfl))
  f215 := Eq.trans Try.func62 (congrArg some (by kernel_rfl))
  f216 := Eq.trans Try.func54 (congrArg some (by kernel_rfl))
  f257 := Eq.trans Try.func39 (congrArg some (by kernel_rfl))
  f294 := Eq.trans Try.func48 (congrArg some (by kernel_rfl))
  f295 := Eq.trans Try.func49 (congrArg some (by kernel_rfl))
  f296 := Eq.trans Try.func50 (congrArg some (by kernel_rfl))
  f297 := Eq.trans Try.func51 (congrArg some (by kernel_rfl))
  f298 := Eq.trans Try.func52 (congrArg some (by kernel_rfl))
  f299 := Eq.trans Try.func53 (congrArg some (by kernel_rfl))
  f300 := Eq.trans Try.func55 (congrArg some (by kernel_rfl))
  f301 := Eq.trans Try.func56 (congrArg some (by kernel_rfl))
  f328 := Eq.trans Try.func63 (congrArg some (by kernel_rfl))
  f329 := Eq.trans Try.func64 (congrArg some (by kernel_rfl))
  f330 := Eq.trans Try.func65 (congrArg some (by kernel_rfl))
  f331 := Eq.trans Try.func66 (congrArg some (by kernel_rfl))
  f332 := Eq.trans Try.func67 (congrArg some (by kernel_rfl))
  f343 := Eq.trans Try.func76 (congrArg some (by kernel_rfl))
  t0 := Try.underlying0
  a0 := Try.isAgg0
  z0 := Try.sizeOf0
  v0 := Try.zeroValue0
  t3 := Try.underlying3
  a3 := Try.isAgg3
  z3 := Try.sizeOf3
  v3 := Try.zeroValue3
  t4 := Try.underlying4
  a4 := Try.isAgg4
  z4 := Try.sizeOf4
  v4 := Try.zeroValue4
  t5 := Try.underlying5
  a5 := Try.isAgg5
  z5 := Try.sizeOf5
  v5 := Try.zeroValue5
  t9 := Try.underlying9
  a9 := Try.isAgg9
  z9 := Try.sizeOf9
  v9 := Try.zeroValue9
  t28 := Try.underlying31
  a28 := Try.isAgg31
  z28 := Try.sizeOf31
  v28 := Try.zeroValue31
  t46 := Try.underlying68
  a46 := Try.isAgg68
  z46 := Try.sizeOf68
  v46 := Try.zeroValue68
  t51 := Try.underlying84
  a51 := Try.isAgg84
  z51 := Try.sizeOf84
  v51 := Try.zeroValue84
  t53 := Try.underlying86
  a53 := Try.isAgg86
  z53 := Try.sizeOf86
  v53 := Try.zeroValue86
  t131 := Try.underlying81
  a131 := Try.isAgg81
  z131 := Try.sizeOf81
  v131 := Try.zeroValue81
  t182 := Try.underlying75
  a182 := Try.isAgg75
  z182 := Try.sizeOf75
  v182 := Try.zeroValue75
  t183 := Try.underlying76
  a183 := Try.isAgg76
  z183 := Try.sizeOf76
  v183 := Try.zeroValue76
  t218 := Try.underlying90
  a218 := Try.isAgg90
  z218 := Try.sizeOf90
  v218 := Try.zeroValue90
  t222 := Try.underlying94
  a222 := Try.isAgg94
  z222 := Try.sizeOf94
  v222 := Try.zeroValue94
  t228 := Try.underlying101
  a228 := Try.isAgg101
  z228 := Try.sizeOf101
  v228 := Try.zeroValue101
  t229 := Try.underlying102
  a229 := Try.isAgg102
  z229 := Try.sizeOf102
  v229 := Try.zeroValue102

theorem C48n (v : Nat) : Ctr Try.prog 48 [.hs 0 v 0 0, .int .i64 0, .int .i64 0] [.arr v 1 []] (retO [] [.arr v 1 []]) := by
  apply ctr_b A48_ok rfl (Nat.le_of_ble_eq_true rfl)
  unfold A48
  simp only [initL, Nat.reduceAdd]
  simp (config := {maxSteps := 2000000, implicitDefEqProofs := false}) (disch := omega) only [↓reduceIte, go_sem, Int.reduceToNat, Nat.reduceAdd, Nat.reduceLeDiff, Nat.reduceEqDiff, Nat.reduceSub, Nat.reduceMul, reduceCtorEq]
  refine loopL (σ := Unit) (fun s => ⟨[(0, .hs 0 v 0 0), (1, .int .i64 0), (2, .int .i64 0), (6, .int .i64 1)], [(0, .arr v 1 [])]⟩) (fun s => True) (fun s => 0) () (by simp (config := {maxSteps := 2000000, implicitDefEqProofs := false}) (disch := omega) only [↓reduceIte, go_sem, Int.reduceToNat, Nat.reduceAdd, Nat.reduceLeDiff, Nat.reduceEqDiff, Nat.reduceSub, Nat.reduceMul, reduceCtorEq]; rfl) trivial ?_
  intro _ _
  simp (config := {maxSteps := 2000000, implicitDefEqProofs := false}) (disch := omega) only [↓reduceIte, go_sem, Int.reduceToNat, Nat.reduceAdd, Nat.reduceLeDiff, Nat.reduceEqDiff, Nat.reduceSub, Nat.reduceMul, reduceCtorEq]
  exact ⟨rfl, rfl⟩
theorem C39n (v : Nat) : Ctr Try.prog 39 [.hs 0 v 0 0, .int .i64 0, .int .i64 0, .int .i64 0] [.arr v 1 []] (retO [] [.arr v 1 []]) := by
  apply ctr_b A39_ok rfl (Nat.le_of_ble_eq_true rfl)
  unfold A39
  simp only [initL, Nat.reduceAdd]
  simp (config := {maxSteps := 2000000, implicitDefEqProofs := false}) (disch := omega) only [↓reduceIte, go_sem, Int.reduceToNat, Nat.reduceAdd, Nat.reduceLeDiff, Nat.reduceEqDiff, Nat.reduceSub, Nat.reduceMul, reduceCtorEq]
  refine loopL (σ := Unit) (fun s => ⟨[(0, .hs 0 v 0 0), (1, .int .i64 0), (2, .int .i64 0), (3, .int .i64 0), (8, .bool true), (9, .bool true)], [(0, .arr v 1 [])]⟩) (fun s => True) (fun s => 0) () (by simp (config := {maxSteps := 2000000, implicitDefEqProofs := false}) (disch := omega) only [↓reduceIte, go_sem, Int.reduceToNat, Nat.reduceAdd, Nat.reduceLeDiff, Nat.reduceEqDiff, Nat.reduceSub, Nat.reduceMul, reduceCtorEq]) trivial ?_
  intro _ _
  simp (config := {maxSteps := 2000000, implicitDefEqProofs := false}) (disch := omega) only [↓reduceIte, go_sem, Int.reduceToNat, Nat.reduceAdd, Nat.reduceLeDiff, Nat.reduceEqDiff, Nat.reduceSub, Nat.reduceMul, reduceCtorEq]
  refine callO (C48n v) ?_
  rintro _ _ ⟨rfl, rfl⟩
  simp (config := {maxSteps := 2000000, implicitDefEqProofs := false}) (disch := omega) only [↓reduceIte, go_sem, Int.reduceToNat, Nat.reduceAdd, Nat.reduceLeDiff, Nat.reduceEqDiff, Nat.reduceSub, Nat.reduceMul, reduceCtorEq]
  exact ⟨rfl, rfl⟩
theorem C32n (v : Nat) : Ctr Try.prog 32 [.hs 0 v 0 0] [.arr v 1 []] (retO [] [.arr v 1 []]) := by
  have h40 := C40 0 (by decide)
  rw [show ((lenB 0).toNat : Int) = 0 from by decide +kernel] at h40
  apply ctr_b A32_ok rfl (Nat.le_of_ble_eq_true rfl)
  unfold A32
  simp only [initL, Nat.reduceAdd]
  simp (config := {maxSteps := 2000000, implicitDefEqProofs := false}) (disch := omega) only [↓reduceIte, go_sem, Int.reduceToNat, Nat.reduceAdd, Nat.reduceLeDiff, Nat.reduceEqDiff, Nat.reduceSub, Nat.reduceMul, reduceCtorEq, wrapU]
  refine callL h40 ?_
  simp (config := {maxSteps := 2000000, implicitDefEqProofs := false}) (disch := omega) only [↓reduceIte, go_sem, Int.reduceToNat, Nat.reduceAdd, Nat.reduceLeDiff, Nat.reduceEqDiff, Nat.reduceSub, Nat.reduceMul, reduceCtorEq]
  refine callO (C39n v) ?_
  rintro _ _ ⟨rfl, rfl⟩
  simp (config := {maxSteps := 2000000, implicitDefEqProofs := false}) (disch := omega) only [↓reduceIte, go_sem, Int.reduceToNat, Nat.reduceAdd, Nat.reduceLeDiff, Nat.reduceEqDiff, Nat.reduceSub, Nat.reduceMul, reduceCtorEq]
  exact ⟨rfl, rfl⟩
/-- slices.Sort of numbers. -/
theorem C32 (v : Nat) (zs : List Int) (hl : zs.length < 1000000) : Ctr Try.prog 32 [.hs 0 v 0 zs.length] [.arr v 1 (zs.map encN)] (retO [] [.arr v 1 ((zs.mergeSort leI).map encN)]) := by
  by_cases h : zs = []
  · subst h
    have e : ([] : List Int).mergeSort leI = [] := by simp
    rw [e]
    exact C32n v
  · exact ctr_sort1 (by kernel_rfl) (fun blk off cap zs w h1 h2 h3 => Any.slices_Sort_int lays189 blk off cap zs w h1 h2 h3) v zs h hl
theorem C34 (l : List Int) (hl : l.length < 1000000) : Ctr Try.prog 34 [.fn 42 [.rp [.sl (l.map encN)]]] [] (ret [.sl ((l.mergeSort leI).map encN)]) := by
  apply ctr_b A34_ok rfl (Nat.le_of_ble_eq_true rfl)
  unfold A34
  simp only [initL, Nat.reduceAdd]
  simp (config := {maxSteps := 2000000, implicitDefEqProofs := false}) (disch := omega) only [↓reduceIte, go_sem, Int.reduceToNat, Nat.reduceAdd, Nat.reduceLeDiff, Nat.reduceEqDiff, Nat.reduceSub, Nat.reduceMul, reduceCtorEq]
  refine callD (C41 42 _ l rfl (by omega) (I42 l (by omega))) ?_
  simp (config := {maxSteps := 2000000, implicitDefEqProofs := false}) (disch := omega) only [↓reduceIte, go_sem, Int.reduceToNat, Nat.reduceAdd, Nat.reduceLeDiff, Nat.reduceEqDiff, Nat.reduceSub, Nat.reduceMul, reduceCtorEq]
  refine callO (C32 l.length l hl) ?_
  rintro _ _ ⟨rfl, rfl⟩
  simp (config := {maxSteps := 2000000, implicitDefEqProofs := false}) (disch := omega) only [↓reduceIte, go_sem, Int.reduceToNat, Nat.reduceAdd, Nat.reduceLeDiff, Nat.reduceEqDiff, Nat.reduceSub, Nat.reduceMul, reduceCtorEq]
  rw [List.take_of_length_le (by simp)]
  exact ⟨rfl, rfl⟩
/-! Join. -/
def jn : Option Seg → List Seg → List Seg
  | none, [] => []
  | some a, [] => [a]
  | none, s :: l => jn (some s) l
  | some a, s :: l => if a.v = s.v ∧ a.to = s.fr ∧ a.loc = s.loc then jn (some { a with to := s.to }) l else a :: jn (some s) l
def outS (d : List Seg) (a : Option Seg) : List Seg := d ++ a.toList
theorem loc_eq (x y : Loc) : (x == y) = ((x.kind == y.kind) && ((x.cls == y.cls) && (x.n == y.n))) := by
  obtain ⟨k, c, n⟩ := x
  obtain ⟨k', c', n'⟩ := y
  rw [Bool.eq_iff_iff]
  simp
theorem C21 (l : List Seg) (hl : l.length < 1000000) : Ctr Try.prog 21 [.sl (l.map encS)] [] (ret [.sl ((jn none l).map encS)]) := by
  apply ctr_b A21_ok rfl (Nat.le_of_ble_eq_true rfl)
  unfold A21
  simp only [initL, Nat.reduceAdd]
  simp (config := {maxSteps := 2000000, implicitDefEqProofs := false}) (disch := omega) only [↓reduceIte, go_sem, Int.reduceToNat, Nat.reduceAdd, Nat.reduceLeDiff, Nat.reduceEqDiff, Nat.reduceSub, Nat.reduceMul, reduceCtorEq]
  refine loopL (σ := (Nat × List Seg) × Option Seg) (fun s => ⟨[(3, .hs 3 (outS s.1.2 s.2).length 0 (outS s.1.2 s.2).length), (7, .sl (l.map encS)), (8, .int .i64 l.length), (9, .int .i64 s.1.1)], [(3, .arr (outS s.1.2 s.2).length 6 ((outS s.1.2 s.2).map encS))]⟩)
    (fun s => s.1.1 ≤ l.length ∧ s.1.2.length ≤ s.1.1 ∧ (s.2 = none → s.1.2 = []) ∧ jn none l = s.1.2 ++ jn s.2 (l.drop s.1.1)) (fun s => l.length - s.1.1) ((0, []), none) (by simp (config := {maxSteps := 2000000, implicitDefEqProofs := false}) (disch := omega) only [↓reduceIte, go_sem, Int.reduceToNat, Nat.reduceAdd, Nat.reduceLeDiff, Nat.reduceEqDiff, Nat.reduceSub, Nat.reduceMul, reduceCtorEq]; rfl) ⟨by simp, by simp, fun _ => rfl, rfl⟩ ?_
  rintro ⟨⟨i, d⟩, a⟩ ⟨h1, h2, h3, h4⟩
  simp only at h1 h2 h3 h4
  simp (config := {maxSteps := 2000000, implicitDefEqProofs := false}) (disch := omega) only [↓reduceIte, go_sem, Int.reduceToNat, Nat.reduceAdd, Nat.reduceLeDiff, Nat.reduceEqDiff, Nat.reduceSub, Nat.reduceMul, reduceCtorEq]
  refine ifD (fun c => ?_) (fun c => ?_)
  · have hi : i < l.length := by omega
    have hg := seg_get hi
    rw [drop_bang hi] at h4
    generalize l[i]! = x at hg h4
    cases a with
    | none =>
      have hd := h3 rfl
      subst hd
      simp only [outS, Option.toList_none, List.append_nil, List.length_nil, List.map_nil]
      simp only [encS] at hg
      simp (config := {maxSteps := 2000000, implicitDefEqProofs := false}) (disch := omega) only [↓reduceIte, go_sem, Int.reduceToNat, Nat.reduceAdd, Nat.reduceLeDiff, Nat.reduceEqDiff, Nat.reduceSub, Nat.reduceMul, reduceCtorEq, hg]
      refine accL (by kernel_rfl) ?_
      simp (config := {maxSteps := 2000000, implicitDefEqProofs := false}) (disch := omega) only [↓reduceIte, go_sem, Int.reduceToNat, Nat.reduceAdd, Nat.reduceLeDiff, Nat.reduceEqDiff, Nat.reduceSub, Nat.reduceMul, reduceCtorEq, hg]
      exact ⟨((i + 1, []), some x), by simp [outS, encS], ⟨by simp only; omega, by simp, (fun h => by cases h), by simpa [jn] using h4⟩, by simp only; omega⟩
    | some q =>
      have e1 := get_last encS d q
      have e2 := fun y => map_last encS d q y
      have t1 : (((d.length + 1 : Nat) : Int) - 1).toNat = d.length := by omega
      have t2 : (d ++ [q]).length = d.length + 1 := by simp
      have h29 := C29 q x
      have hq := (loc_eq q.loc x.loc).symm
      simp only [encS] at e1 hg h29
      simp only [outS, Option.toList_some, t2]
      have no : ¬ (q.v = x.v ∧ q.to = x.fr ∧ q.loc = x.loc) → jn none l = (d ++ [q]) ++ jn (some x) (l.drop (i + 1)) := by
        intro h
        rw [jn, if_neg h] at h4
        rw [h4]
        simp
      simp (config := {maxSteps := 2000000, implicitDefEqProofs := false}) (disch := omega) only [↓reduceIte, go_sem, Int.reduceToNat, Nat.reduceAdd, Nat.reduceLeDiff, Nat.reduceEqDiff, Nat.reduceSub, Nat.reduceMul, reduceCtorEq, hg, e1, t1, t2]
      refine callL h29 ?_
      simp (config := {maxSteps := 2000000, implicitDefEqProofs := false}) (disch := omega) only [↓reduceIte, go_sem, Int.reduceToNat, Nat.reduceAdd, Nat.reduceLeDiff, Nat.reduceEqDiff, Nat.reduceSub, Nat.reduceMul, reduceCtorEq, hg, e1, t1, t2]
      refine ifB (fun b1 => ?_) (fun b1 => ?_)
      · simp (config := {maxSteps := 2000000, implicitDefEqProofs := false}) (disch := omega) only [↓reduceIte, go_sem, Int.reduceToNat, Nat.reduceAdd, Nat.reduceLeDiff, Nat.reduceEqDiff, Nat.reduceSub, Nat.reduceMul, reduceCtorEq, hg, e1, t1, t2, hq]
        refine accL (by kernel_rfl) ?_
        simp (config := {maxSteps := 2000000, implicitDefEqProofs := false}) (disch := omega) only [↓reduceIte, go_sem, Int.reduceToNat, Nat.reduceAdd, Nat.reduceLeDiff, Nat.reduceEqDiff, Nat.reduceSub, Nat.reduceMul, reduceCtorEq, hg, e1, t1, t2, hq]
        refine ifE (fun b2 => ?_) (fun b2 => ?_)
        · simp (config := {maxSteps := 2000000, implicitDefEqProofs := false}) (disch := omega) only [↓reduceIte, go_sem, Int.reduceToNat, Nat.reduceAdd, Nat.reduceLeDiff, Nat.reduceEqDiff, Nat.reduceSub, Nat.reduceMul, reduceCtorEq, hg, e1, t1, t2, e2, hq]
          refine ⟨((i + 1, d), some { q with to := x.to }), by simp [outS, encS], ⟨by simp only; omega, by simp only; omega, (fun h => by cases h), ?_⟩, by simp only; omega⟩
          simp only [nxtB, Bool.and_eq_true, beq_iff_eq] at b1
          rw [jn, if_pos ⟨b1.1, b1.2, b2⟩] at h4
          exact h4
        · simp (config := {maxSteps := 2000000, implicitDefEqProofs := false}) (disch := omega) only [↓reduceIte, go_sem, Int.reduceToNat, Nat.reduceAdd, Nat.reduceLeDiff, Nat.reduceEqDiff, Nat.reduceSub, Nat.reduceMul, reduceCtorEq, hg, e1, t1, t2]
          exact ⟨((i + 1, d ++ [q]), some x), by simp [outS, encS], ⟨by simp only; omega, by simp only [t2]; omega, (fun h => by cases h), no fun h => b2 h.2.2⟩, by simp only; omega⟩
      · simp (config := {maxSteps := 2000000, implicitDefEqProofs := false}) (disch := omega) only [↓reduceIte, go_sem, Int.reduceToNat, Nat.reduceAdd, Nat.reduceLeDiff, Nat.reduceEqDiff, Nat.reduceSub, Nat.reduceMul, reduceCtorEq, hg, e1, t1, t2]
        refine accL (by kernel_rfl) ?_
        simp (config := {maxSteps := 2000000, implicitDefEqProofs := false}) (disch := omega) only [↓reduceIte, go_sem, Int.reduceToNat, Nat.reduceAdd, Nat.reduceLeDiff, Nat.reduceEqDiff, Nat.reduceSub, Nat.reduceMul, reduceCtorEq, hg, e1, t1, t2]
        exact ⟨((i + 1, d ++ [q]), some x), by simp [outS, encS], ⟨by simp only; omega, by simp only [t2]; omega, (fun h => by cases h), no fun h => by simp [nxtB, h.1, h.2.1] at b1⟩, by simp only; omega⟩
  · have hi : i = l.length := by omega
    subst hi
    rw [List.drop_length] at h4
    simp (config := {maxSteps := 2000000, implicitDefEqProofs := false}) (disch := omega) only [↓reduceIte, go_sem, Int.reduceToNat, Nat.reduceAdd, Nat.reduceLeDiff, Nat.reduceEqDiff, Nat.reduceSub, Nat.reduceMul, reduceCtorEq]
    refine ⟨?_, rfl⟩
    rw [h4]
    cases a <;> simp [outS, jn]
/-! Cut. -/
def cut1 : Seg → List Int → List Seg
  | s, [] => [s]
  | s, p :: ps => if s.fr < p ∧ p < s.to then { s with to := p } :: cut1 { s with fr := p } ps else cut1 s ps
def cutF (l : List Seg) (ps : List Int) : List Seg := l.flatMap fun s => cut1 s ps
theorem cut_cons (s : Seg) (l : List Seg) (ps : List Int) : cutF (s :: l) ps = cut1 s ps ++ cutF l ps := rfl
theorem drop_bangI {l : List Int} {i : Nat} (h : i < l.length) : l.drop i = l[i]! :: l.drop (i + 1) := by
  rw [List.drop_eq_getElem_cons h]
  simp [h]
theorem C22 (l : List Seg) (ps0 : List Int) (hl : l.length < 1000000) (hp : ps0.length < 1000000) (hT : (cutF l (ps0.mergeSort leI)).length < 1000000) : Ctr Try.prog 22 [.sl (l.map encS), .sl (ps0.map encN)] [] (ret [.sl ((cutF l (ps0.mergeSort leI)).map encS)]) := by
  have hpl : (ps0.mergeSort leI).length < 1000000 := by rw [List.length_mergeSort]; exact hp
  apply ctr_b A22_ok rfl (Nat.le_of_ble_eq_true rfl)
  unfold A22
  simp only [initL, Nat.reduceAdd]
  simp (config := {maxSteps := 2000000, implicitDefEqProofs := false}) (disch := omega) only [↓reduceIte, go_sem, Int.reduceToNat, Nat.reduceAdd, Nat.reduceLeDiff, Nat.reduceEqDiff, Nat.reduceSub, Nat.reduceMul, reduceCtorEq]
  refine callL (C35 ps0) ?_
  simp (config := {maxSteps := 2000000, implicitDefEqProofs := false}) (disch := omega) only [↓reduceIte, go_sem, Int.reduceToNat, Nat.reduceAdd, Nat.reduceLeDiff, Nat.reduceEqDiff, Nat.reduceSub, Nat.reduceMul, reduceCtorEq]
  refine callL (C34 ps0 hp) ?_
  generalize ps0.mergeSort leI = ps at hT hpl
  simp (config := {maxSteps := 2000000, implicitDefEqProofs := false}) (disch := omega) only [↓reduceIte, go_sem, Int.reduceToNat, Nat.reduceAdd, Nat.reduceLeDiff, Nat.reduceEqDiff, Nat.reduceSub, Nat.reduceMul, reduceCtorEq]
  refine loopL (σ := Nat × List Seg) (fun s => ⟨[(5, .sl (ps.map encN)), (6, .hs 6 s.2.length 0 s.2.length), (15, .sl (l.map encS)), (16, .int .i64 l.length), (17, .int .i64 s.1)], [(6, .arr s.2.length 6 (s.2.map encS))]⟩)
    (fun s => s.1 ≤ l.length ∧ cutF l ps = s.2 ++ cutF (l.drop s.1) ps) (fun s => l.length - s.1) (0, []) (by simp (config := {maxSteps := 2000000, implicitDefEqProofs := false}) (disch := omega) only [↓reduceIte, go_sem, Int.reduceToNat, Nat.reduceAdd, Nat.reduceLeDiff, Nat.reduceEqDiff, Nat.reduceSub, Nat.reduceMul, reduceCtorEq]; rfl) ⟨by simp, rfl⟩ ?_
  rintro ⟨i, d⟩ ⟨h1, h2⟩
  simp only at h1 h2
  have hdl : d.length < 1000000 := by have := congrArg List.length h2; rw [List.length_append] at this; omega
  simp (config := {maxSteps := 2000000, implicitDefEqProofs := false}) (disch := omega) only [↓reduceIte, go_sem, Int.reduceToNat, Nat.reduceAdd, Nat.reduceLeDiff, Nat.reduceEqDiff, Nat.reduceSub, Nat.reduceMul, reduceCtorEq]
  refine ifD (fun c => ?_) (fun c => ?_)
  · have hi : i < l.length := by omega
    have hg := seg_get hi
    rw [drop_bang hi, cut_cons] at h2
    generalize l[i]! = x at hg h2
    simp only [encS] at hg
    simp (config := {maxSteps := 2000000, implicitDefEqProofs := false}) (disch := omega) only [↓reduceIte, go_sem, Int.reduceToNat, Nat.reduceAdd, Nat.reduceLeDiff, Nat.reduceEqDiff, Nat.reduceSub, Nat.reduceMul, reduceCtorEq, hg]
    refine loopL (σ := (Nat × List Seg) × Seg) (fun s => ⟨[(5, .sl (ps.map encN)), (6, .hs 6 s.1.2.length 0 s.1.2.length), (8, .ref 8 0), (15, .sl (l.map encS)), (16, .int .i64 l.length), (17, .int .i64 i), (21, .sl (ps.map encN)), (22, .int .i64 ps.length), (23, .int .i64 s.1.1)], [(6, .arr s.1.2.length 6 (s.1.2.map encS)), (8, .pbox [.int .i64 s.2.v, .int .i64 s.2.fr, .int .i64 s.2.to, .int .i64 s.2.loc.kind, .int .i64 s.2.loc.cls, .int .i64 s.2.loc.n])]⟩)
      (fun s => s.1.1 ≤ ps.length ∧ cutF l ps = s.1.2 ++ (cut1 s.2 (ps.drop s.1.1) ++ cutF (l.drop (i + 1)) ps)) (fun s => ps.length - s.1.1) ((0, d), x) (by simp (config := {maxSteps := 2000000, implicitDefEqProofs := false}) (disch := omega) only [↓reduceIte, go_sem, Int.reduceToNat, Nat.reduceAdd, Nat.reduceLeDiff, Nat.reduceEqDiff, Nat.reduceSub, Nat.reduceMul, reduceCtorEq]; rfl) ⟨by simp, h2⟩ ?_
    rintro ⟨⟨j, d2⟩, y⟩ ⟨k1, k2⟩
    simp only at k1 k2
    have hdl2 : d2.length < 1000000 := by have := congrArg List.length k2; rw [List.length_append] at this; omega
    simp (config := {maxSteps := 2000000, implicitDefEqProofs := false}) (disch := omega) only [↓reduceIte, go_sem, Int.reduceToNat, Nat.reduceAdd, Nat.reduceLeDiff, Nat.reduceEqDiff, Nat.reduceSub, Nat.reduceMul, reduceCtorEq]
    refine ifD (fun c2 => ?_) (fun c2 => ?_)
    · have hj : j < ps.length := by omega
      have hgp := enc_get hj
      rw [drop_bangI hj] at k2
      generalize ps[j]! = p at hgp k2
      simp (config := {maxSteps := 2000000, implicitDefEqProofs := false}) (disch := omega) only [↓reduceIte, go_sem, Int.reduceToNat, Nat.reduceAdd, Nat.reduceLeDiff, Nat.reduceEqDiff, Nat.reduceSub, Nat.reduceMul, reduceCtorEq, hgp]
      refine ifD (fun e1 => ?_) (fun e1 => ?_)
      · simp (config := {maxSteps := 2000000, implicitDefEqProofs := false}) (disch := omega) only [↓reduceIte, go_sem, Int.reduceToNat, Nat.reduceAdd, Nat.reduceLeDiff, Nat.reduceEqDiff, Nat.reduceSub, Nat.reduceMul, reduceCtorEq, hgp]
        refine ifD (fun e2 => ?_) (fun e2 => ?_)
        · rw [cut1, if_pos (by omega)] at k2
          simp (config := {maxSteps := 2000000, implicitDefEqProofs := false}) (disch := omega) only [↓reduceIte, go_sem, Int.reduceToNat, Nat.reduceAdd, Nat.reduceLeDiff, Nat.reduceEqDiff, Nat.reduceSub, Nat.reduceMul, reduceCtorEq, hgp]
          refine ⟨((j + 1, d2 ++ [{ y with to := p }]), { y with fr := p }), by simp [encS], ⟨by simp only; omega, ?_⟩, by simp only; omega⟩
          rw [k2]
          simp
        · rw [cut1, if_neg (by omega)] at k2
          simp (config := {maxSteps := 2000000, implicitDefEqProofs := false}) (disch := omega) only [↓reduceIte, go_sem, Int.reduceToNat, Nat.reduceAdd, Nat.reduceLeDiff, Nat.reduceEqDiff, Nat.reduceSub, Nat.reduceMul, reduceCtorEq, hgp]
          exact ⟨((j + 1, d2), y), by simp, ⟨by simp only; omega, k2⟩, by simp only; omega⟩
      · rw [cut1, if_neg (by omega)] at k2
        simp (config := {maxSteps := 2000000, implicitDefEqProofs := false}) (disch := omega) only [↓reduceIte, go_sem, Int.reduceToNat, Nat.reduceAdd, Nat.reduceLeDiff, Nat.reduceEqDiff, Nat.reduceSub, Nat.reduceMul, reduceCtorEq, hgp]
        exact ⟨((j + 1, d2), y), by simp, ⟨by simp only; omega, k2⟩, by simp only; omega⟩
    · have hj : j = ps.length := by omega
      subst hj
      rw [List.drop_length, cut1] at k2
      simp (config := {maxSteps := 2000000, implicitDefEqProofs := false}) (disch := omega) only [↓reduceIte, go_sem, Int.reduceToNat, Nat.reduceAdd, Nat.reduceLeDiff, Nat.reduceEqDiff, Nat.reduceSub, Nat.reduceMul, reduceCtorEq]
      refine ⟨(i + 1, d2 ++ [y]), by simp [encS], ⟨by simp only; omega, ?_⟩, by simp only; omega⟩
      rw [k2]
      simp
  · have hi : i = l.length := by omega
    subst hi
    rw [List.drop_length] at h2
    simp (config := {maxSteps := 2000000, implicitDefEqProofs := false}) (disch := omega) only [↓reduceIte, go_sem, Int.reduceToNat, Nat.reduceAdd, Nat.reduceLeDiff, Nat.reduceEqDiff, Nat.reduceSub, Nat.reduceMul, reduceCtorEq]
    refine ⟨?_, rfl⟩
    rw [h2]
    simp [cutF]
/-! Drop, Sort, Put. -/
def drop1 (v fr to : Int) (s : Seg) : List Seg :=
  if s.v ≠ v ∨ to ≤ fr ∨ s.to ≤ fr ∨ s.fr ≥ to then [s] else (if s.fr < fr then [{ s with to := fr }] else []) ++ (if s.to > to then [{ s with fr := to }] else [])
def dropF (l : List Seg) (v fr to : Int) : List Seg := l.flatMap (drop1 v fr to)
theorem drop_cons (s : Seg) (l : List Seg) (v fr to : Int) : dropF (s :: l) v fr to = drop1 v fr to s ++ dropF l v fr to := rfl
theorem drop1_len (v fr to : Int) (s : Seg) : (drop1 v fr to s).length ≤ 2 := by
  unfold drop1
  split
  · simp
  · split <;> split <;> simp
theorem dropF_len (v fr to : Int) : ∀ l : List Seg, (dropF l v fr to).length ≤ 2 * l.length
  | [] => by simp [dropF]
  | s :: l => by
    rw [drop_cons, List.length_append, List.length_cons]
    have := drop1_len v fr to s
    have := dropF_len v fr to l
    omega
theorem C25 (l : List Seg) (v fr to : Int) (hl : l.length < 400000) : Ctr Try.prog 25 [.sl (l.map encS), .int .i64 v, .int .i64 fr, .int .i64 to] [] (retO [.hs 0 (dropF l v fr to).length 0 (dropF l v fr to).length] [.arr (dropF l v fr to).length 6 ((dropF l v fr to).map encS)]) := by
  have hT := dropF_len v fr to l
  apply ctr_b A25_ok rfl (Nat.le_of_ble_eq_true rfl)
  unfold A25
  simp only [initL, Nat.reduceAdd]
  simp (config := {maxSteps := 2000000, implicitDefEqProofs := false}) (disch := omega) only [↓reduceIte, go_sem, Int.reduceToNat, Nat.reduceAdd, Nat.reduceLeDiff, Nat.reduceEqDiff, Nat.reduceSub, Nat.reduceMul, reduceCtorEq]
  refine loopL (σ := Nat × List Seg) (fun s => ⟨[(1, .int .i64 v), (2, .int .i64 fr), (3, .int .i64 to), (9, .hs 9 s.2.length 0 s.2.length), (13, .sl (l.map encS)), (14, .int .i64 l.length), (15, .int .i64 s.1)], [(9, .arr s.2.length 6 (s.2.map encS))]⟩)
    (fun s => s.1 ≤ l.length ∧ dropF l v fr to = s.2 ++ dropF (l.drop s.1) v fr to) (fun s => l.length - s.1) (0, []) (by simp (config := {maxSteps := 2000000, implicitDefEqProofs := false}) (disch := omega) only [↓reduceIte, go_sem, Int.reduceToNat, Nat.reduceAdd, Nat.reduceLeDiff, Nat.reduceEqDiff, Nat.reduceSub, Nat.reduceMul, reduceCtorEq]; rfl) ⟨by simp, rfl⟩ ?_
  rintro ⟨i, d⟩ ⟨h1, h2⟩
  simp only at h1 h2
  have hdl : d.length < 1000000 := by have := congrArg List.length h2; rw [List.length_append] at this; omega
  simp (config := {maxSteps := 2000000, implicitDefEqProofs := false}) (disch := omega) only [↓reduceIte, go_sem, Int.reduceToNat, Nat.reduceAdd, Nat.reduceLeDiff, Nat.reduceEqDiff, Nat.reduceSub, Nat.reduceMul, reduceCtorEq]
  refine ifD (fun c => ?_) (fun c => ?_)
  · have hi : i < l.length := by omega
    have hg := seg_get hi
    rw [drop_bang hi, drop_cons] at h2
    generalize l[i]! = x at hg h2
    simp only [encS] at hg
    have keep : (x.v ≠ v ∨ to ≤ fr ∨ x.to ≤ fr ∨ x.fr ≥ to) → dropF l v fr to = (d ++ [x]) ++ dropF (l.drop (i + 1)) v fr to := by
      intro h
      rw [drop1, if_pos h] at h2
      rw [h2]
      simp
    simp (config := {maxSteps := 2000000, implicitDefEqProofs := false}) (disch := omega) only [↓reduceIte, go_sem, Int.reduceToNat, Nat.reduceAdd, Nat.reduceLeDiff, Nat.reduceEqDiff, Nat.reduceSub, Nat.reduceMul, reduceCtorEq, hg]
    refine ifE (fun e1 => ?_) (fun e1 => ?_)
    · simp (config := {maxSteps := 2000000, implicitDefEqProofs := false}) (disch := omega) only [↓reduceIte, go_sem, Int.reduceToNat, Nat.reduceAdd, Nat.reduceLeDiff, Nat.reduceEqDiff, Nat.reduceSub, Nat.reduceMul, reduceCtorEq, hg]
      refine ifD (fun e2 => ?_) (fun e2 => ?_)
      · simp (config := {maxSteps := 2000000, implicitDefEqProofs := false}) (disch := omega) only [↓reduceIte, go_sem, Int.reduceToNat, Nat.reduceAdd, Nat.reduceLeDiff, Nat.reduceEqDiff, Nat.reduceSub, Nat.reduceMul, reduceCtorEq, hg]
        exact ⟨(i + 1, d ++ [x]), by simp [encS], ⟨by simp only; omega, keep (by omega)⟩, by simp only; omega⟩
      · simp (config := {maxSteps := 2000000, implicitDefEqProofs := false}) (disch := omega) only [↓reduceIte, go_sem, Int.reduceToNat, Nat.reduceAdd, Nat.reduceLeDiff, Nat.reduceEqDiff, Nat.reduceSub, Nat.reduceMul, reduceCtorEq, hg]
        refine ifD (fun e3 => ?_) (fun e3 => ?_)
        · simp (config := {maxSteps := 2000000, implicitDefEqProofs := false}) (disch := omega) only [↓reduceIte, go_sem, Int.reduceToNat, Nat.reduceAdd, Nat.reduceLeDiff, Nat.reduceEqDiff, Nat.reduceSub, Nat.reduceMul, reduceCtorEq, hg]
          exact ⟨(i + 1, d ++ [x]), by simp [encS], ⟨by simp only; omega, keep (by omega)⟩, by simp only; omega⟩
        · simp (config := {maxSteps := 2000000, implicitDefEqProofs := false}) (disch := omega) only [↓reduceIte, go_sem, Int.reduceToNat, Nat.reduceAdd, Nat.reduceLeDiff, Nat.reduceEqDiff, Nat.reduceSub, Nat.reduceMul, reduceCtorEq, hg]
          refine ifD (fun e4 => ?_) (fun e4 => ?_)
          · simp (config := {maxSteps := 2000000, implicitDefEqProofs := false}) (disch := omega) only [↓reduceIte, go_sem, Int.reduceToNat, Nat.reduceAdd, Nat.reduceLeDiff, Nat.reduceEqDiff, Nat.reduceSub, Nat.reduceMul, reduceCtorEq, hg]
            exact ⟨(i + 1, d ++ [x]), by simp [encS], ⟨by simp only; omega, keep (by omega)⟩, by simp only; omega⟩
          · rw [drop1, if_neg (by omega)] at h2
            simp (config := {maxSteps := 2000000, implicitDefEqProofs := false}) (disch := omega) only [↓reduceIte, go_sem, Int.reduceToNat, Nat.reduceAdd, Nat.reduceLeDiff, Nat.reduceEqDiff, Nat.reduceSub, Nat.reduceMul, reduceCtorEq, hg]
            refine ifD (fun e5 => ?_) (fun e5 => ?_)
            · rw [if_pos e5] at h2
              simp (config := {maxSteps := 2000000, implicitDefEqProofs := false}) (disch := omega) only [↓reduceIte, go_sem, Int.reduceToNat, Nat.reduceAdd, Nat.reduceLeDiff, Nat.reduceEqDiff, Nat.reduceSub, Nat.reduceMul, reduceCtorEq, hg]
              refine ifD (fun e6 => ?_) (fun e6 => ?_)
              · rw [if_pos e6] at h2
                simp (config := {maxSteps := 2000000, implicitDefEqProofs := false}) (disch := omega) only [↓reduceIte, go_sem, Int.reduceToNat, Nat.reduceAdd, Nat.reduceLeDiff, Nat.reduceEqDiff, Nat.reduceSub, Nat.reduceMul, reduceCtorEq, hg, List.length_append]
                refine ⟨(i + 1, d ++ [{ x with to := fr }] ++ [{ x with fr := to }]), by simp [encS], ⟨by simp only; omega, ?_⟩, by simp only; omega⟩
                rw [h2]
                simp
              · rw [if_neg e6] at h2
                simp (config := {maxSteps := 2000000, implicitDefEqProofs := false}) (disch := omega) only [↓reduceIte, go_sem, Int.reduceToNat, Nat.reduceAdd, Nat.reduceLeDiff, Nat.reduceEqDiff, Nat.reduceSub, Nat.reduceMul, reduceCtorEq, hg]
                refine ⟨(i + 1, d ++ [{ x with to := fr }]), by simp [encS], ⟨by simp only; omega, ?_⟩, by simp only; omega⟩
                rw [h2]
                simp
            · rw [if_neg e5] at h2
              simp (config := {maxSteps := 2000000, implicitDefEqProofs := false}) (disch := omega) only [↓reduceIte, go_sem, Int.reduceToNat, Nat.reduceAdd, Nat.reduceLeDiff, Nat.reduceEqDiff, Nat.reduceSub, Nat.reduceMul, reduceCtorEq, hg]
              refine ifD (fun e6 => ?_) (fun e6 => ?_)
              · rw [if_pos e6] at h2
                simp (config := {maxSteps := 2000000, implicitDefEqProofs := false}) (disch := omega) only [↓reduceIte, go_sem, Int.reduceToNat, Nat.reduceAdd, Nat.reduceLeDiff, Nat.reduceEqDiff, Nat.reduceSub, Nat.reduceMul, reduceCtorEq, hg]
                refine ⟨(i + 1, d ++ [{ x with fr := to }]), by simp [encS], ⟨by simp only; omega, ?_⟩, by simp only; omega⟩
                rw [h2]
                simp
              · rw [if_neg e6] at h2
                simp (config := {maxSteps := 2000000, implicitDefEqProofs := false}) (disch := omega) only [↓reduceIte, go_sem, Int.reduceToNat, Nat.reduceAdd, Nat.reduceLeDiff, Nat.reduceEqDiff, Nat.reduceSub, Nat.reduceMul, reduceCtorEq, hg]
                refine ⟨(i + 1, d), by simp, ⟨by simp only; omega, ?_⟩, by simp only; omega⟩
                rw [h2]
                simp
    · simp (config := {maxSteps := 2000000, implicitDefEqProofs := false}) (disch := omega) only [↓reduceIte, go_sem, Int.reduceToNat, Nat.reduceAdd, Nat.reduceLeDiff, Nat.reduceEqDiff, Nat.reduceSub, Nat.reduceMul, reduceCtorEq, hg]
      exact ⟨(i + 1, d ++ [x]), by simp [encS], ⟨by simp only; omega, keep (by omega)⟩, by simp only; omega⟩
  · have hi : i = l.length := by omega
    subst hi
    rw [List.drop_length] at h2
    simp (config := {maxSteps := 2000000, implicitDefEqProofs := false}) (disch := omega) only [↓reduceIte, go_sem, Int.reduceToNat, Nat.reduceAdd, Nat.reduceLeDiff, Nat.reduceEqDiff, Nat.reduceSub, Nat.reduceMul, reduceCtorEq]
    have h2 : dropF l v fr to = d := by rw [h2]; simp [dropF]
    rw [h2]
    exact ⟨rfl, rfl⟩
theorem C26 (l : List Seg) (hl : l.length ≤ 120) : Ctr Try.prog 26 [.sl (l.map encS)] [] (ret [.sl ((l.mergeSort leS).map encS)]) := by
  apply ctr_b A26_ok rfl (Nat.le_of_ble_eq_true rfl)
  unfold A26
  simp only [initL, Nat.reduceAdd]
  simp (config := {maxSteps := 2000000, implicitDefEqProofs := false}) (disch := omega) only [↓reduceIte, go_sem, Int.reduceToNat, Nat.reduceAdd, Nat.reduceLeDiff, Nat.reduceEqDiff, Nat.reduceSub, Nat.reduceMul, reduceCtorEq]
  refine callL (C37 l) ?_
  simp (config := {maxSteps := 2000000, implicitDefEqProofs := false}) (disch := omega) only [↓reduceIte, go_sem, Int.reduceToNat, Nat.reduceAdd, Nat.reduceLeDiff, Nat.reduceEqDiff, Nat.reduceSub, Nat.reduceMul, reduceCtorEq]
  refine callL (C36 l hl) ?_
  simp (config := {maxSteps := 2000000, implicitDefEqProofs := false}) (disch := omega) only [↓reduceIte, go_sem, Int.reduceToNat, Nat.reduceAdd, Nat.reduceLeDiff, Nat.reduceEqDiff, Nat.reduceSub, Nat.reduceMul, reduceCtorEq]
  exact ⟨rfl, rfl⟩
def putF (l : List Seg) (s : Seg) : List Seg := ((dropF l s.v s.fr s.to) ++ (if s.to > s.fr then [s] else [])).mergeSort leS
theorem C24 (l : List Seg) (s : Seg) (hl : l.length ≤ 50) : Ctr Try.prog 24 [.sl (l.map encS), .agg (encS s)] [] (ret [.sl ((putF l s).map encS)]) := by
  have hT := dropF_len s.v s.fr s.to l
  have h25 := C25 l s.v s.fr s.to (by omega)
  unfold putF
  generalize dropF l s.v s.fr s.to = d at hT h25
  apply ctr_b A24_ok rfl (Nat.le_of_ble_eq_true rfl)
  unfold A24
  simp only [initL, Nat.reduceAdd, encS]
  simp (config := {maxSteps := 2000000, implicitDefEqProofs := false}) (disch := omega) only [↓reduceIte, go_sem, Int.reduceToNat, Nat.reduceAdd, Nat.reduceLeDiff, Nat.reduceEqDiff, Nat.reduceSub, Nat.reduceMul, reduceCtorEq]
  refine callD h25 ?_
  simp (config := {maxSteps := 2000000, implicitDefEqProofs := false}) (disch := omega) only [↓reduceIte, go_sem, Int.reduceToNat, Nat.reduceAdd, Nat.reduceLeDiff, Nat.reduceEqDiff, Nat.reduceSub, Nat.reduceMul, reduceCtorEq]
  refine ifD (fun e => ?_) (fun e => ?_)
  · have h26 := C26 (d ++ [s]) (by simp; omega)
    rw [if_pos e]
    rw [List.map_append, List.map_cons, List.map_nil] at h26
    simp only [encS] at h26
    have tk : ∀ y : List AV, List.take (d.length - 0 + 1) (d.map encS ++ [y]) = d.map encS ++ [y] := fun y => List.take_of_length_le (by simp)
    simp (config := {maxSteps := 2000000, implicitDefEqProofs := false}) (disch := omega) only [↓reduceIte, go_sem, Int.reduceToNat, Nat.reduceAdd, Nat.reduceLeDiff, Nat.reduceEqDiff, Nat.reduceSub, Nat.reduceMul, reduceCtorEq]
    refine accL (by kernel_rfl) ?_
    simp (config := {maxSteps := 2000000, implicitDefEqProofs := false}) (disch := omega) only [↓reduceIte, go_sem, Int.reduceToNat, Nat.reduceAdd, Nat.reduceLeDiff, Nat.reduceEqDiff, Nat.reduceSub, Nat.reduceMul, reduceCtorEq, tk]
    refine callL h26 ?_
    simp (config := {maxSteps := 2000000, implicitDefEqProofs := false}) (disch := omega) only [↓reduceIte, go_sem, Int.reduceToNat, Nat.reduceAdd, Nat.reduceLeDiff, Nat.reduceEqDiff, Nat.reduceSub, Nat.reduceMul, reduceCtorEq]
    exact ⟨rfl, rfl⟩
  · have h26 := C26 d (by omega)
    rw [if_neg e, List.append_nil]
    simp (config := {maxSteps := 2000000, implicitDefEqProofs := false}) (disch := omega) only [↓reduceIte, go_sem, Int.reduceToNat, Nat.reduceAdd, Nat.reduceLeDiff, Nat.reduceEqDiff, Nat.reduceSub, Nat.reduceMul, reduceCtorEq]

    refine callL h26 ?_
    simp (config := {maxSteps := 2000000, implicitDefEqProofs := false}) (disch := omega) only [↓reduceIte, go_sem, Int.reduceToNat, Nat.reduceAdd, Nat.reduceLeDiff, Nat.reduceEqDiff, Nat.reduceSub, Nat.reduceMul, reduceCtorEq]

    exact ⟨rfl, rfl⟩
end Go.Proofs.Ytpmabjkjolhilaa.X
namespace Go.Proofs.Ytpmabjkjolhilaa.X
open Go Go.AM Go.Proofs
attribute [local go_sem ↓] w_skip w_lbl w_ops w_draw w_pre w_post w_alt w_seq w_cond w_block w_join w_loop w_exit w_ret w_scope w_rfunc l_nil l_cons th_n th_e th_r bk_n bk_r bk_e t_nil t_it t_call i_nil i_one i_grp s_nil s_cons c_call e_mv e_nil e_frz o_mov o_bin o_eq o_un o_conv o_len o_slen o_idx o_aix o_fad o_load o_store o_boxp o_boxo o_boxm o_alloc o_alloca o_nilarr o_build o_bslp o_bslo o_slc o_sslc o_slc3 o_sidx o_mkfn o_ext o_pick o_callf o_callb o_appd o_clear o_mxn o_field o_nilc o_make o_buildm o_boxg o_mkif o_tass o_eqs o_callo k_int k_str k_bool k_grb k_grt k_some k_none k_arr k_lens k_lenf k_lenh k_idxs k_idxf k_idxh k_ld k_loadp k_loadr k_loade k_storer k_storee k_oin k_ois k_slcs k_slcf k_slch k_slc3s k_slc3f k_slc3h k_app2 k_apps k_appf k_apph k_cals k_cald k_cali k_cnb k_cna k_esn k_esc k_efn k_efc k_esh b_add b_sub b_mul b_quo b_rem b_and b_or b_xor b_andNot b_eql b_neq b_lss b_leq b_gtr b_geq b_shl b_shr b_seq b_sne b_slt b_sad q_bool q_str q_nil q_nilf u_not u_neg u_xor f_ret f_nor v_r v_c v_reg v_ob v_set v_put v_so v_sn v_pn v_pc g_nil d_nil p_nil m_mv m_fr z_nil z_cons z_an z_ac g_cons d_cons p_cons y_mov y_bin y_eq y_un y_conv y_len y_slen y_idx y_aix y_fad y_load y_store y_boxp y_boxo y_boxm y_alloc y_alloca y_nilarr y_build y_bslp y_bslo y_slc y_sslc y_slc3 y_sidx y_mkfn y_ext y_pick y_callf y_callb y_appd y_clear y_mxn y_field y_nilc y_make y_buildm y_boxg y_mkif y_tass y_eqs y_callo nb_if
attribute [local go_sem] VL_mk VL2_mk If_t If_f If_not If_and If_or If_dt If_df If_et If_ef If_ne Ck_t Ck_h Opt_s ld_a ld_c renL ren keepR renA idxM invL getObs mapOb renOb allNone putAll fzR fzO fz fzL fzOb frzOk upFrom mapR resOne resA cellsOf oneA oneAL isP isPL okSt kRows kParts fillA setAt bor bor0 bor1 bor2 borC borI key0 key1 key2 keysA fillM cellsM cellM unif ptrA ifOk kPartsM getObsM allNoneM zipU scal0 scalar eqC evNil evNilF List.map_cons List.map_nil List.cons_append List.nil_append List.append_nil List.drop_zero List.drop_succ_cons List.drop_nil List.take_succ_cons List.take_zero List.take_nil List.length_cons List.length_nil List.length_map List.getElem?_map Option.map_some Option.map_none Int.toNat_natCast Int.toNat_zero Int.toNat_one Int.natCast_nonneg List.flatMap_cons List.flatMap_nil List.all_cons List.all_nil Bool.and_true Bool.true_and Bool.and_false Bool.false_and Bool.not_true Bool.not_false beq_self_eq_true nb_self all_nil List.forall_mem_cons tk_map tk_app bs_self bs_dec bq_t bq_f Bool.not_not decide_true decide_false Bool.not_not and_self and_true true_and eq_self List.reverse_cons List.reverse_nil List.getElem?_cons_zero List.getElem?_cons_succ cond_true cond_false List.set_cons_zero List.set_cons_succ Nat.zero_add Nat.add_zero if_true if_false ite_true ite_false implies_true wrap64 wrap8
set_option linter.unusedVariables false
set_option linter.unusedSimpArgs false
set_option maxRecDepth 10000
def cpt : List Int → List Int
  | [] => []
  | [x] => [x]
  | x :: y :: l => if x = y then cpt (y :: l) else x :: cpt (y :: l)
theorem cpt_head : ∀ (x : Int) (l : List Int), cpt (x :: l) = x :: (cpt (x :: l)).tail
  | x, [] => rfl
  | x, y :: l => by
    rw [cpt]
    split
    · rename_i h
      rw [cpt_head y l, h]
      rfl
    · rfl
theorem cpt_drop {z : List Int} {q : Nat} (h1 : 0 < q) (h2 : q < z.length) : cpt (z.drop (q - 1)) = if z[q - 1]! = z[q]! then cpt (z.drop q) else z[q - 1]! :: cpt (z.drop q) := by
  have e1 := drop_bangI (l := z) (i := q - 1) (by omega)
  have e2 := drop_bangI h2
  rw [show q - 1 + 1 = q by omega] at e1
  rw [e1, e2, cpt]
theorem enc_getA {l : List Int} {i : Nat} (h : i < l.length) : Option.map encN l[i]? = some [.int .i64 l[i]!] := by simp [h, encN]
theorem C33 (v : Nat) (z : List Int) (hl : z.length < 1000000) : Ctr Try.prog 33 [.hs 0 v 0 z.length] [.arr v 1 (z.map encN)] (fun r o => ∃ rows, r = [.hs 0 v 0 (cpt z).length] ∧ o = [.arr v 1 rows] ∧ rows.take (cpt z).length = (cpt z).map encN) := by
  apply ctr_b A33_ok rfl (Nat.le_of_ble_eq_true rfl)
  unfold A33
  simp only [initL, Nat.reduceAdd]
  simp (config := {maxSteps := 2000000, implicitDefEqProofs := false}) (disch := omega) only [↓reduceIte, go_sem, Int.reduceToNat, Nat.reduceAdd, Nat.reduceLeDiff, Nat.reduceEqDiff, Nat.reduceSub, Nat.reduceMul, reduceCtorEq]
  refine ifD (fun g => ?_) (fun g => ?_)
  · have hz : cpt z = z := by
      match z, g with
      | [], _ => rfl
      | [x], _ => rfl
      | x :: y :: l, g => simp at g; omega
    simp (config := {maxSteps := 2000000, implicitDefEqProofs := false}) (disch := omega) only [↓reduceIte, go_sem, Int.reduceToNat, Nat.reduceAdd, Nat.reduceLeDiff, Nat.reduceEqDiff, Nat.reduceSub, Nat.reduceMul, reduceCtorEq]
    rw [hz]
    exact ⟨z.map encN, rfl, rfl, by rw [List.take_of_length_le (by simp)]⟩
  · simp (config := {maxSteps := 2000000, implicitDefEqProofs := false}) (disch := omega) only [↓reduceIte, go_sem, Int.reduceToNat, Nat.reduceAdd, Nat.reduceLeDiff, Nat.reduceEqDiff, Nat.reduceSub, Nat.reduceMul, reduceCtorEq]
    refine loopL (σ := Nat) (fun k => ⟨[(0, .hs 0 v 0 z.length), (3, .int .i64 k)], [(0, .arr v 1 (z.map encN))]⟩)
      (fun k => 1 ≤ k ∧ k ≤ z.length ∧ cpt z = z.take (k - 1) ++ cpt (z.drop (k - 1))) (fun k => z.length - k) 1 (by simp (config := {maxSteps := 2000000, implicitDefEqProofs := false}) (disch := omega) only [↓reduceIte, go_sem, Int.reduceToNat, Nat.reduceAdd, Nat.reduceLeDiff, Nat.reduceEqDiff, Nat.reduceSub, Nat.reduceMul, reduceCtorEq]; rfl) ⟨Nat.le_refl _, by omega, rfl⟩ ?_
    rintro k ⟨h1, h2, h3⟩
    simp (config := {maxSteps := 2000000, implicitDefEqProofs := false}) (disch := omega) only [↓reduceIte, go_sem, Int.reduceToNat, Nat.reduceAdd, Nat.reduceLeDiff, Nat.reduceEqDiff, Nat.reduceSub, Nat.reduceMul, reduceCtorEq]
    refine ifD (fun c => ?_) (fun c => ?_)
    · have hk : k < z.length := by omega
      have hg := enc_getA hk
      have hg2 := enc_getA (show k - 1 < z.length by omega)
      have t1 : ((k : Int) - 1).toNat = k - 1 := by omega
      rw [cpt_drop (by omega) hk] at h3
      have htk : z.take k = z.take (k - 1) ++ [z[k - 1]!] := by
        have : k = (k - 1) + 1 := by omega
        rw [this, List.take_add_one, Nat.add_sub_cancel]
        simp [show k - 1 < z.length by omega]
      simp (config := {maxSteps := 2000000, implicitDefEqProofs := false}) (disch := omega) only [↓reduceIte, go_sem, Int.reduceToNat, Nat.reduceAdd, Nat.reduceLeDiff, Nat.reduceEqDiff, Nat.reduceSub, Nat.reduceMul, reduceCtorEq, hg, hg2, t1]
      refine accL (by kernel_rfl) ?_
      simp (config := {maxSteps := 2000000, implicitDefEqProofs := false}) (disch := omega) only [↓reduceIte, go_sem, Int.reduceToNat, Nat.reduceAdd, Nat.reduceLeDiff, Nat.reduceEqDiff, Nat.reduceSub, Nat.reduceMul, reduceCtorEq, hg, hg2, t1]
      refine ifE (fun e => ?_) (fun e => ?_)
      · rw [if_pos e.symm] at h3
        have h3' : cpt z = z.take k ++ (cpt (z.drop k)).tail := by
          rw [h3, htk, List.append_assoc]
          congr 1
          have := cpt_head z[k]! (z.drop (k + 1))
          rw [← drop_bangI hk] at this
          rw [this, e]
          rfl
        simp (config := {maxSteps := 2000000, implicitDefEqProofs := false}) (disch := omega) only [↓reduceIte, go_sem, Int.reduceToNat, Nat.reduceAdd, Nat.reduceLeDiff, Nat.reduceEqDiff, Nat.reduceSub, Nat.reduceMul, reduceCtorEq]
        refine loopL (σ := (Nat × Nat) × List Int) (fun s => ⟨[(0, .hs 0 v 0 z.length), (3, .int .i64 s.1.1), (4, .hs 0 v k (z.length - k)), (5, .int .i64 s.1.2)], [(0, .arr v 1 (s.2.map encN))]⟩)
          (fun s => 1 ≤ s.1.2 ∧ k + s.1.2 ≤ z.length ∧ k ≤ s.1.1 ∧ s.1.1 ≤ k + s.1.2 - 1 ∧ s.2.length = z.length ∧ cpt z = s.2.take s.1.1 ++ (cpt (z.drop (k + s.1.2 - 1))).tail ∧ ∀ j, k + s.1.2 - 1 ≤ j → s.2[j]! = z[j]!) (fun s => z.length - s.1.2) ((k, 1), z) (by simp (config := {maxSteps := 2000000, implicitDefEqProofs := false}) (disch := omega) only [↓reduceIte, go_sem, Int.reduceToNat, Nat.reduceAdd, Nat.reduceLeDiff, Nat.reduceEqDiff, Nat.reduceSub, Nat.reduceMul, reduceCtorEq]; rfl)
          ⟨by simp, by simp only; omega, by simp, by simp, rfl, by simpa using h3', fun j _ => rfl⟩ ?_
        rintro ⟨⟨k1, k2⟩, A⟩ ⟨q1, q2, q3, q4, q5, q6, q7⟩
        simp only at q1 q2 q3 q4 q5 q6 q7
        simp (config := {maxSteps := 2000000, implicitDefEqProofs := false}) (disch := omega) only [↓reduceIte, go_sem, Int.reduceToNat, Nat.reduceAdd, Nat.reduceLeDiff, Nat.reduceEqDiff, Nat.reduceSub, Nat.reduceMul, reduceCtorEq]
        refine ifD (fun c2 => ?_) (fun c2 => ?_)
        · have hq : k + k2 < z.length := by omega
          have g1 := enc_getA (l := A) (show k + k2 < A.length by omega)
          have g2 := enc_getA (l := A) (show k + (k2 - 1) < A.length by omega)
          have t2 : ((k2 : Int) - 1).toNat = k2 - 1 := by omega
          rw [cpt_drop (q := k + k2) (by omega) hq] at q6
          have v1 := q7 (k + k2) (by omega)
          have v2 := q7 (k + k2 - 1) (Nat.le_refl _)
          rw [show k + (k2 - 1) = k + k2 - 1 by omega] at g2
          have t3 : k + (k2 - 1) = k + k2 - 1 := by omega
          rw [v1] at g1
          rw [v2] at g2
          have hset : ∀ x : Int, (A.map encN).set k1 [.int .i64 x] = (A.set k1 x).map encN := fun x => by rw [List.map_set]; rfl
          simp (config := {maxSteps := 2000000, implicitDefEqProofs := false}) (disch := omega) only [↓reduceIte, go_sem, Int.reduceToNat, Nat.reduceAdd, Nat.reduceLeDiff, Nat.reduceEqDiff, Nat.reduceSub, Nat.reduceMul, reduceCtorEq, g1, g2, t2, t3]
          refine accL (by kernel_rfl) ?_
          simp (config := {maxSteps := 2000000, implicitDefEqProofs := false}) (disch := omega) only [↓reduceIte, go_sem, Int.reduceToNat, Nat.reduceAdd, Nat.reduceLeDiff, Nat.reduceEqDiff, Nat.reduceSub, Nat.reduceMul, reduceCtorEq, g1, g2, t2, t3]
          refine ifE (fun e2 => ?_) (fun e2 => ?_)
          · rw [if_pos e2.symm] at q6
            simp (config := {maxSteps := 2000000, implicitDefEqProofs := false}) (disch := omega) only [↓reduceIte, go_sem, Int.reduceToNat, Nat.reduceAdd, Nat.reduceLeDiff, Nat.reduceEqDiff, Nat.reduceSub, Nat.reduceMul, reduceCtorEq]
            exact ⟨((k1, k2 + 1), A), by simp, ⟨by simp, by simp only; omega, q3, by simp only; omega, q5, by simpa using q6, fun j hj => q7 j (by simp only at hj; omega)⟩, by simp only; omega⟩
          · rw [if_neg (fun h => e2 h.symm)] at q6
            have gk := enc_getA (l := A) (show k1 < A.length by omega)
            simp (config := {maxSteps := 2000000, implicitDefEqProofs := false}) (disch := omega) only [↓reduceIte, go_sem, Int.reduceToNat, Nat.reduceAdd, Nat.reduceLeDiff, Nat.reduceEqDiff, Nat.reduceSub, Nat.reduceMul, reduceCtorEq, g1, g2, t2, t3, gk, hset]
            refine ⟨((k1 + 1, k2 + 1), A.set k1 z[k + k2]!), by simp, ⟨by simp, by simp only; omega, by simp only; omega, by simp only; omega, by simp only [List.length_set]; exact q5, ?_, fun j hj => ?_⟩, by simp only; omega⟩
            · have hh := cpt_head z[k + k2]! (z.drop (k + k2 + 1))
              rw [← drop_bangI hq] at hh
              have e5 : (A.set k1 z[k + k2]!).take (k1 + 1) = A.take k1 ++ [z[k + k2]!] := by
                rw [List.take_add_one, List.take_set_of_le (Nat.le_refl _)]
                simp [show k1 < A.length by omega]
              simp only [show k + (k2 + 1) - 1 = k + k2 by omega]
              rw [e5, q6, List.tail_cons, List.append_assoc]
              congr 1
            · simp only at hj
              have := q7 j (by omega)
              rw [← this]
              by_cases hjl : j < A.length
              · simp [hjl, List.getElem_set, show k1 ≠ j by omega]
              · simp [hjl]
        · have hk2 : k + k2 = z.length := by omega
          have hend : cpt z = A.take k1 := by
            have : z.drop (k + k2 - 1) = [z[k + k2 - 1]!] := by
              rw [drop_bangI (by omega), List.drop_eq_nil_of_le (by omega)]
            rw [q6, this]
            simp [cpt]
          have hlen : (cpt z).length = k1 := by rw [hend, List.length_take]; omega
          simp (config := {maxSteps := 2000000, implicitDefEqProofs := false}) (disch := omega) only [↓reduceIte, go_sem, Int.reduceToNat, Nat.reduceAdd, Nat.reduceLeDiff, Nat.reduceEqDiff, Nat.reduceSub, Nat.reduceMul, reduceCtorEq]
          refine ⟨_, by rw [hlen]; simp, rfl, ?_⟩
          rw [hlen, hend, List.append_assoc, List.take_append_of_le_length (by simp; omega), List.take_take, Nat.min_self, List.map_take]
      · rw [if_neg (fun h => e h.symm)] at h3
        simp (config := {maxSteps := 2000000, implicitDefEqProofs := false}) (disch := omega) only [↓reduceIte, go_sem, Int.reduceToNat, Nat.reduceAdd, Nat.reduceLeDiff, Nat.reduceEqDiff, Nat.reduceSub, Nat.reduceMul, reduceCtorEq]
        refine ⟨k + 1, by simp, ⟨by omega, by omega, ?_⟩, by omega⟩
        rw [h3, Nat.add_sub_cancel, htk]
        simp
    · have hz : cpt z = z := by
        have : z.drop (k - 1) = [z[k - 1]!] := by
          rw [drop_bangI (by omega), List.drop_eq_nil_of_le (by omega)]
        rw [h3, this]
        show z.take (k - 1) ++ [z[k - 1]!] = z
        rw [← this, List.take_append_drop]
      simp (config := {maxSteps := 2000000, implicitDefEqProofs := false}) (disch := omega) only [↓reduceIte, go_sem, Int.reduceToNat, Nat.reduceAdd, Nat.reduceLeDiff, Nat.reduceEqDiff, Nat.reduceSub, Nat.reduceMul, reduceCtorEq]
      rw [hz]
      exact ⟨z.map encN, rfl, rfl, by rw [List.take_of_length_le (by simp)]⟩
theorem C7 (l : List Seg) : Ctr Try.prog 7 [.sl (l.map encS)] [] (ret [.bool (decide ((l.length : Int) ≤ 40))]) := by
  apply ctr_b A7_ok rfl (Nat.le_of_ble_eq_true rfl)
  unfold A7
  simp only [initL, Nat.reduceAdd]
  simp (config := {maxSteps := 2000000, implicitDefEqProofs := false}) (disch := omega) only [↓reduceIte, go_sem, Int.reduceToNat, Nat.reduceAdd, Nat.reduceLeDiff, Nat.reduceEqDiff, Nat.reduceSub, Nat.reduceMul, reduceCtorEq]
  exact ⟨rfl, rfl⟩
def vregF (l : List Seg) : List Int := cpt ((l.map (·.v)).mergeSort leI)
theorem C13 (l : List Seg) (hl : l.length < 1000000) : Ctr Try.prog 13 [.sl (l.map encS)] [] (ret [.sl ((vregF l).map encN)]) := by
  apply ctr_b A13_ok rfl (Nat.le_of_ble_eq_true rfl)
  unfold A13
  simp only [initL, Nat.reduceAdd]
  simp (config := {maxSteps := 2000000, implicitDefEqProofs := false}) (disch := omega) only [↓reduceIte, go_sem, Int.reduceToNat, Nat.reduceAdd, Nat.reduceLeDiff, Nat.reduceEqDiff, Nat.reduceSub, Nat.reduceMul, reduceCtorEq]
  refine loopL (σ := Nat) (fun s => ⟨[(3, .hs 3 s 0 s), (6, .sl (l.map encS)), (7, .int .i64 l.length), (8, .int .i64 s)], [(3, .arr s 1 (((l.take s).map (·.v)).map encN))]⟩)
    (fun s => s ≤ l.length) (fun s => l.length - s) 0 (by simp (config := {maxSteps := 2000000, implicitDefEqProofs := false}) (disch := omega) only [↓reduceIte, go_sem, Int.reduceToNat, Nat.reduceAdd, Nat.reduceLeDiff, Nat.reduceEqDiff, Nat.reduceSub, Nat.reduceMul, reduceCtorEq]; rfl) (Nat.zero_le _) ?_
  rintro s h1
  have htl : (l.take s).length = s := by rw [List.length_take]; omega
  simp (config := {maxSteps := 2000000, implicitDefEqProofs := false}) (disch := omega) only [↓reduceIte, go_sem, Int.reduceToNat, Nat.reduceAdd, Nat.reduceLeDiff, Nat.reduceEqDiff, Nat.reduceSub, Nat.reduceMul, reduceCtorEq]
  refine ifD (fun c => ?_) (fun c => ?_)
  · have hs : s < l.length := by omega
    have hg := seg_get hs
    have ht : l.take (s + 1) = l.take s ++ [l[s]!] := by rw [List.take_add_one]; simp [hs]
    generalize l[s]! = x at hg ht
    simp only [encS] at hg
    simp (config := {maxSteps := 2000000, implicitDefEqProofs := false}) (disch := omega) only [↓reduceIte, go_sem, Int.reduceToNat, Nat.reduceAdd, Nat.reduceLeDiff, Nat.reduceEqDiff, Nat.reduceSub, Nat.reduceMul, reduceCtorEq, hg, htl]
    refine ⟨s + 1, ?_, by omega, by omega⟩
    rw [ht]
    simp [encN]
  · have hs : s = l.length := by omega
    subst hs
    rw [List.take_length]
    simp (config := {maxSteps := 2000000, implicitDefEqProofs := false}) (disch := omega) only [↓reduceIte, go_sem, Int.reduceToNat, Nat.reduceAdd, Nat.reduceLeDiff, Nat.reduceEqDiff, Nat.reduceSub, Nat.reduceMul, reduceCtorEq]
    have hc := C32 l.length (l.map (·.v)) (by simpa using hl)
    rw [List.length_map] at hc
    refine callO hc ?_
    rintro _ _ ⟨rfl, rfl⟩
    simp (config := {maxSteps := 2000000, implicitDefEqProofs := false}) (disch := omega) only [↓reduceIte, go_sem, Int.reduceToNat, Nat.reduceAdd, Nat.reduceLeDiff, Nat.reduceEqDiff, Nat.reduceSub, Nat.reduceMul, reduceCtorEq]
    have hc2 := C33 l.length ((l.map (·.v)).mergeSort leI) (by simpa using hl)
    rw [List.length_mergeSort, List.length_map] at hc2
    refine callO hc2 ?_
    rintro _ _ ⟨rows, rfl, rfl, hr⟩
    simp (config := {maxSteps := 2000000, implicitDefEqProofs := false}) (disch := omega) only [↓reduceIte, go_sem, Int.reduceToNat, Nat.reduceAdd, Nat.reduceLeDiff, Nat.reduceEqDiff, Nat.reduceSub, Nat.reduceMul, reduceCtorEq, hr]
    exact ⟨rfl, rfl⟩
theorem C27 (n : Int) : Ctr Try.prog 27 [.int .i64 n] [] (ret [.agg [.int .i64 2, .int .i64 0, .int .i64 n]]) := by
  apply ctr_b A27_ok rfl (Nat.le_of_ble_eq_true rfl)
  unfold A27
  simp only [initL, Nat.reduceAdd]
  simp (config := {maxSteps := 2000000, implicitDefEqProofs := false}) (disch := omega) only [↓reduceIte, go_sem, Int.reduceToNat, Nat.reduceAdd, Nat.reduceLeDiff, Nat.reduceEqDiff, Nat.reduceSub, Nat.reduceMul, reduceCtorEq]
  exact ⟨rfl, rfl⟩
end Go.Proofs.Ytpmabjkjolhilaa.X
namespace Go.Proofs.Ytpmabjkjolhilaa.X
open Go Go.AM Go.Proofs
set_option linter.unusedVariables false
set_option linter.unusedSimpArgs false
set_option maxRecDepth 10000
/-! In order. -/
def okC : Option Seg → List Seg → Prop
  | _, [] => True
  | q, s :: l => okP q s = true ∧ okC (some s) l
theorem bad_iff : ∀ (l : List Seg) (q : Option Seg) (i : Nat), badF q l i = -1 ↔ okC q l
  | [], q, i => by simp [badF, okC]
  | s :: l, q, i => by
    rw [badF, okC]
    split
    · rename_i h
      rw [bad_iff l (some s) (i + 1)]
      simp [h]
    · rename_i h
      exact ⟨fun h2 => by omega, fun h2 => absurd h2.1 h⟩
theorem wrong_iff (l : List Seg) : wrongF l = -1 ↔ okC none l := bad_iff l none 0
theorem bad_ge : ∀ (l : List Seg) (q : Option Seg) (i : Nat), -1 ≤ badF q l i
  | [], q, i => by simp [badF]
  | s :: l, q, i => by
    rw [badF]
    split
    · exact bad_ge l _ _
    · omega
theorem wrong_ok {l : List Seg} (h : ¬ wrongF l ≥ 0) : okC none l := by
  have := bad_ge l none 0
  rw [← wrong_iff]
  have : -1 ≤ wrongF l := this
  omega
theorem okP_lt {q : Option Seg} {s : Seg} (h : okP q s = true) : 0 ≤ s.fr ∧ s.fr < s.to := by
  cases q with
  | none => exact okP_none.1 h
  | some a => have := okP_some.1 h; exact ⟨this.1, this.2.1⟩
theorem okP_congr {a a' s : Seg} (h1 : a.v = a'.v) (h2 : a.to = a'.to) : okP (some a) s = okP (some a') s := by simp only [okP, h1, h2]
theorem okC_congr {a a' : Seg} (h1 : a.v = a'.v) (h2 : a.to = a'.to) : ∀ {l : List Seg}, okC (some a) l ↔ okC (some a') l
  | [] => Iff.rfl
  | s :: l => by rw [okC, okC, okP_congr h1 h2]
/-- Another one in place of s, at the same points' ahead. -/
theorem okP_more {q : Option Seg} {s t : Seg} (h : okP q s = true) (hv : t.v = s.v) (hf : s.fr ≤ t.fr) (ht : t.fr < t.to) : okP q t = true := by
  cases q with
  | none => have := okP_none.1 h; exact okP_none.2 ⟨by omega, ht⟩
  | some a => have := okP_some.1 h; exact okP_some.2 ⟨by omega, ht, by omega⟩
/-! Where. -/
def atO (l : List Seg) (v p : Int) : Option Loc := (l.find? (hitB v p)).map (·.loc)
theorem at_O (l : List Seg) (v p : Int) : atF l v p = (atO l v p).getD z0 := by
  unfold atF atO
  cases l.find? (hitB v p) <;> rfl
theorem hit_iff {v p : Int} {s : Seg} : hitB v p s = true ↔ s.v = v ∧ s.fr ≤ p ∧ p < s.to := by simp [hitB, and_assoc]
open Classical in
theorem atO_cons (s : Seg) (l : List Seg) (v p : Int) : atO (s :: l) v p = if s.v = v ∧ s.fr ≤ p ∧ p < s.to then some s.loc else atO l v p := by
  unfold atO
  rw [List.find?_cons]
  by_cases h : s.v = v ∧ s.fr ≤ p ∧ p < s.to
  · rw [if_pos h, hit_iff.2 h]
    rfl
  · rw [if_neg h]
    have : hitB v p s = false := by rw [← Bool.not_eq_true, hit_iff]; exact h
    rw [this]
/-! Cut. -/
theorem cut_ok : ∀ (ps : List Int) (s : Seg) (q : Option Seg) (rest : List Seg), okP q s = true → okC (some s) rest → okC q (cut1 s ps ++ rest)
  | [], s, q, rest, h1, h2 => ⟨h1, h2⟩
  | p :: ps, s, q, rest, h1, h2 => by
    rw [cut1]
    split
    · rename_i hp
      refine ⟨okP_more h1 rfl (Int.le_refl _) hp.1, ?_⟩
      refine cut_ok ps _ _ rest ?_ ((okC_congr (a := s) (a' := { s with fr := p }) rfl rfl).1 h2)
      have := okP_lt h1
      exact okP_some.2 ⟨by simp only; omega, hp.2, .inr ⟨rfl, Int.le_refl _⟩⟩
    · exact cut_ok ps s q rest h1 h2
theorem cut_okL (ps : List Int) : ∀ (l : List Seg) (q : Option Seg), okC q l → okC q (cutF l ps)
  | [], q, _ => trivial
  | s :: l, q, h => by
    rw [cut_cons]
    exact cut_ok ps s q _ h.1 (cut_okL ps l (some s) h.2)
open Classical in
theorem cut_at (v t : Int) : ∀ (ps : List Int) (s : Seg) (rest : List Seg), atO (cut1 s ps ++ rest) v t = if s.v = v ∧ s.fr ≤ t ∧ t < s.to then some s.loc else atO rest v t
  | [], s, rest => atO_cons s rest v t
  | p :: ps, s, rest => by
    rw [cut1]
    split
    · rename_i hp
      rw [List.cons_append, atO_cons, cut_at v t ps]
      simp only
      by_cases h : s.v = v ∧ s.fr ≤ t ∧ t < s.to
      · rw [if_pos h]
        by_cases h2 : t < p
        · rw [if_pos ⟨h.1, h.2.1, h2⟩]
        · rw [if_neg (by omega), if_pos ⟨h.1, by omega, h.2.2⟩]
      · rw [if_neg h, if_neg (by omega), if_neg (by omega)]
    · exact cut_at v t ps s rest
theorem cut_atL (ps : List Int) (v t : Int) : ∀ l : List Seg, atO (cutF l ps) v t = atO l v t
  | [] => rfl
  | s :: l => by
    classical
    rw [cut_cons, cut_at, atO_cons, cut_atL ps v t l]
theorem cut_in : ∀ (ps : List Int) (s x : Seg), x ∈ cut1 s ps → s.fr ≤ x.fr ∧ x.to ≤ s.to
  | [], s, x, h => by
    rw [cut1, List.mem_singleton] at h
    subst h
    omega
  | p :: ps, s, x, h => by
    rw [cut1] at h
    split at h
    · rename_i hp
      rcases List.mem_cons.1 h with rfl | h
      · simp only; omega
      · have := cut_in ps _ x h
        simp only at this
        omega
    · exact cut_in ps s x h
theorem cut_no : ∀ (ps : List Int) (s x : Seg), ps.Pairwise (· ≤ ·) → x ∈ cut1 s ps → ∀ p ∈ ps, ¬ (p > x.fr ∧ p < x.to)
  | [], s, x, _, _, p, hp => by simp at hp
  | a :: ps, s, x, hs, h, p, hp => by
    rw [List.pairwise_cons] at hs
    rw [cut1] at h
    split at h
    · rename_i ha
      rcases List.mem_cons.1 h with rfl | h
      · simp only
        rcases List.mem_cons.1 hp with rfl | hp
        · omega
        · have := hs.1 p hp
          omega
      · rcases List.mem_cons.1 hp with rfl | hp
        · have := cut_in ps _ x h
          simp only at this
          omega
        · exact cut_no ps _ x hs.2 h p hp
    · rename_i ha
      rcases List.mem_cons.1 hp with rfl | hp
      · have := cut_in ps _ x h
        omega
      · exact cut_no ps s x hs.2 h p hp
theorem cut_noL {l : List Seg} {ps : List Int} {x : Seg} (hs : ps.Pairwise (· ≤ ·)) (h : x ∈ cutF l ps) {p : Int} (hp : p ∈ ps) : ¬ (p > x.fr ∧ p < x.to) := by
  obtain ⟨s, _, h2⟩ := List.mem_flatMap.1 h
  exact cut_no ps s x hs h2 p hp
theorem cut1_len : ∀ (ps : List Int) (s : Seg), (cut1 s ps).length ≤ ps.length + 1
  | [], s => by simp [cut1]
  | p :: ps, s => by
    rw [cut1]
    split
    · have := cut1_len ps { s with fr := p }
      simp only [List.length_cons]
      omega
    · have := cut1_len ps s
      simp only [List.length_cons]
      omega
theorem cut_len (ps : List Int) : ∀ l : List Seg, (cutF l ps).length ≤ l.length * (ps.length + 1)
  | [] => by simp [cutF]
  | s :: l => by
    rw [cut_cons, List.length_append, List.length_cons, Nat.add_mul, Nat.one_mul]
    have := cut1_len ps s
    have := cut_len ps l
    omega
/-! Join. -/
theorem jn_some (a s : Seg) (l : List Seg) : jn (some a) (s :: l) = if a.v = s.v ∧ a.to = s.fr ∧ a.loc = s.loc then jn (some { a with to := s.to }) l else a :: jn (some s) l := rfl
theorem jn_none (s : Seg) (l : List Seg) : jn none (s :: l) = jn (some s) l := rfl
def jb (a s : Seg) : Prop := a.v = s.v ∧ a.to = s.fr ∧ a.loc = s.loc
theorem jn_ok : ∀ (l : List Seg) (a : Seg) (q : Option Seg), okP q a = true → okC (some a) l → okC q (jn (some a) l)
  | [], a, q, h1, _ => ⟨h1, trivial⟩
  | s :: l, a, q, h1, h2 => by
    rw [jn]
    split
    · rename_i hj
      have hs := okP_lt h2.1
      have ha := okP_lt h1
      exact jn_ok l { a with to := s.to } q (okP_more h1 rfl (Int.le_refl _) (by simp only; omega)) ((okC_congr (a := s) (a' := { a with to := s.to }) hj.1.symm rfl).1 h2.2)
    · exact ⟨h1, jn_ok l s (some a) h2.1 h2.2⟩
theorem jn_okL {l : List Seg} (h : okC none l) : okC none (jn none l) := by
  cases l with
  | nil => trivial
  | cons s l => exact jn_ok l s none h.1 h.2
open Classical in
theorem jn_at (v t : Int) : ∀ (l : List Seg) (a : Seg), a.fr < a.to → okC (some a) l → atO (jn (some a) l) v t = if a.v = v ∧ a.fr ≤ t ∧ t < a.to then some a.loc else atO l v t
  | [], a, _, _ => by
    rw [jn, atO_cons]
  | s :: l, a, ha, h => by
    rw [jn]
    have hs := okP_lt h.1
    split
    · rename_i hj
      rw [jn_at v t l { a with to := s.to } (by simp only; omega) ((okC_congr (a := s) (a' := { a with to := s.to }) hj.1.symm rfl).1 h.2), atO_cons]
      simp only
      by_cases h1 : a.v = v ∧ a.fr ≤ t ∧ t < a.to
      · rw [if_pos h1, if_pos ⟨h1.1, h1.2.1, by omega⟩]
      · rw [if_neg h1]
        by_cases h2 : s.v = v ∧ s.fr ≤ t ∧ t < s.to
        · rw [if_pos h2, if_pos (by omega), hj.2.2]
        · rw [if_neg h2, if_neg (by omega)]
    · rw [atO_cons, jn_at v t l s hs.2 h.2, atO_cons]
theorem jn_atL (v t : Int) {l : List Seg} (h : okC none l) : atO (jn none l) v t = atO l v t := by
  classical
  cases l with
  | nil => rfl
  | cons s l =>
    rw [jn, jn_at v t l s (okP_lt h.1).2 h.2, atO_cons]
def noJ : List Seg → Prop
  | a :: b :: l => ¬ jb a b ∧ noJ (b :: l)
  | _ => True
theorem jn_no : ∀ (l : List Seg) (a b : Seg), ¬ jb b a → noJ (b :: jn (some a) l)
  | [], a, b, h => ⟨h, trivial⟩
  | s :: l, a, b, h => by
    rw [jn]
    split
    · exact jn_no l _ b h
    · rename_i hj
      exact ⟨h, jn_no l s a hj⟩
theorem jn_no1 : ∀ (l : List Seg) (a : Seg), noJ (jn (some a) l)
  | [], a => trivial
  | s :: l, a => by
    rw [jn]
    split
    · exact jn_no1 l _
    · rename_i hj
      exact jn_no l s a hj
theorem jn_noL (l : List Seg) : noJ (jn none l) := by
  cases l with
  | nil => trivial
  | cons s l => exact jn_no1 l s
theorem noJ_at : ∀ {l : List Seg} {i : Nat} {a b : Seg}, noJ l → l[i]? = some a → l[i + 1]? = some b → ¬ jb a b
  | [], i, a, b, _, h, _ => by simp at h
  | [x], i, a, b, _, _, h => by simp at h
  | x :: y :: l, 0, a, b, h, h1, h2 => by
    simp at h1 h2
    subst h1 h2
    exact h.1
  | x :: y :: l, i + 1, a, b, h, h1, h2 => noJ_at (l := y :: l) (i := i) h.2 (by simpa using h1) (by simpa using h2)
theorem jn_cut1 : ∀ (ps : List Int) (s a : Seg) (rest : List Seg), jn (some a) (cut1 s ps ++ rest) = jn (some a) (s :: rest)
  | [], s, a, rest => rfl
  | p :: ps, s, a, rest => by
    rw [cut1]
    split
    · rw [List.cons_append, jn_some, jn_some a s]
      by_cases hj : a.v = s.v ∧ a.to = s.fr ∧ a.loc = s.loc
      · rw [if_pos hj, if_pos hj, jn_cut1 ps, jn_some, if_pos ⟨hj.1, rfl, hj.2.2⟩]
      · rw [if_neg hj, if_neg hj, jn_cut1 ps, jn_some, if_pos ⟨rfl, rfl, rfl⟩]
    · exact jn_cut1 ps s a rest
theorem jn_cut0 : ∀ (ps : List Int) (s : Seg) (rest : List Seg), jn none (cut1 s ps ++ rest) = jn none (s :: rest)
  | [], s, rest => rfl
  | p :: ps, s, rest => by
    rw [cut1]
    split
    · rw [List.cons_append, jn_none, jn_cut1 ps, jn_some, if_pos ⟨rfl, rfl, rfl⟩, jn_none]
    · exact jn_cut0 ps s rest
theorem jn_cutL (ps : List Int) : ∀ (l : List Seg) (a : Seg), jn (some a) (cutF l ps) = jn (some a) l
  | [], a => rfl
  | s :: l, a => by
    rw [cut_cons, jn_cut1, jn_some, jn_some, jn_cutL ps l, jn_cutL ps l]
theorem jn_cut (ps : List Int) (l : List Seg) : jn none (cutF l ps) = jn none l := by
  cases l with
  | nil => rfl
  | cons s l => rw [cut_cons, jn_cut0, jn_none, jn_none, jn_cutL]
theorem jn_len : ∀ (l : List Seg) (a : Seg), (jn (some a) l).length ≤ l.length + 1
  | [], a => by simp [jn]
  | s :: l, a => by
    rw [jn]
    split
    · have := jn_len l { a with to := s.to }
      simp only [List.length_cons]
      omega
    · have := jn_len l s
      simp only [List.length_cons]
      omega
theorem jn_lenL (l : List Seg) : (jn none l).length ≤ l.length := by
  cases l with
  | nil => simp [jn]
  | cons s l => exact jn_len l s
end Go.Proofs.Ytpmabjkjolhilaa.X
namespace Go.Proofs.Ytpmabjkjolhilaa.X
open Go Go.AM Go.Proofs
set_option linter.unusedVariables false
set_option linter.unusedSimpArgs false
set_option maxRecDepth 10000
/-! Drop. -/
def nx (a b : Seg) : Prop := a.v < b.v ∨ (a.v = b.v ∧ a.to ≤ b.fr)
def vld (s : Seg) : Prop := 0 ≤ s.fr ∧ s.fr < s.to
def okQ : Option Seg → Seg → Prop
  | none, _ => True
  | some a, s => nx a s
theorem okP_iff {q : Option Seg} {s : Seg} : okP q s = true ↔ vld s ∧ okQ q s := by
  cases q with
  | none => rw [okP_none]; simp [vld, okQ]
  | some a => rw [okP_some]; simp [vld, okQ, nx, and_assoc]
theorem okC_skip {q : Option Seg} {x : Seg} : ∀ {l : List Seg}, okP q x = true → okC (some x) l → okC q l
  | [], _, _ => trivial
  | s :: l, h1, h2 => by
    refine ⟨?_, h2.2⟩
    have k1 := okP_iff.1 h1
    have k2 := okP_iff.1 h2.1
    refine okP_iff.2 ⟨k2.1, ?_⟩
    cases q with
    | none => trivial
    | some a =>
      have a1 : nx a x := k1.2
      have a2 : nx x s := k2.2
      have a3 : vld x := k1.1
      show nx a s
      unfold nx vld at *
      omega
theorem drop_ok {v fr to : Int} (h0 : 0 ≤ fr) {x : Seg} {q : Option Seg} {rest : List Seg} (h1 : okP q x = true) (h2 : okC (some x) rest) : okC q (drop1 v fr to x ++ rest) := by
  have hx := okP_lt h1
  unfold drop1
  split
  · exact ⟨h1, h2⟩
  · rename_i hn
    have hn' : x.v = v ∧ fr < to ∧ fr < x.to ∧ x.fr < to := by omega
    by_cases c1 : x.fr < fr
    · rw [if_pos c1]
      have k1 : okP q { x with to := fr } = true := okP_more h1 rfl (Int.le_refl _) c1
      by_cases c2 : x.to > to
      · rw [if_pos c2]
        refine ⟨k1, okP_some.2 ⟨by simp only; omega, c2, .inr ⟨rfl, by simp only; omega⟩⟩, ?_⟩
        exact (okC_congr (a := x) (a' := { x with fr := to }) rfl rfl).1 h2
      · rw [if_neg c2]
        refine ⟨k1, ?_⟩
        have k2 : okP (some { x with to := fr }) { x with fr := fr } = true := okP_some.2 ⟨by simp only; omega, by simp only; omega, .inr ⟨rfl, Int.le_refl _⟩⟩
        exact okC_skip k2 ((okC_congr (a := x) (a' := { x with fr := fr }) rfl rfl).1 h2)
    · rw [if_neg c1]
      by_cases c2 : x.to > to
      · rw [if_pos c2]
        refine ⟨okP_more h1 rfl (by simp only; omega) c2, ?_⟩
        exact (okC_congr (a := x) (a' := { x with fr := to }) rfl rfl).1 h2
      · rw [if_neg c2]
        exact okC_skip h1 h2
theorem drop_okL {v fr to : Int} (h0 : 0 ≤ fr) : ∀ (l : List Seg) (q : Option Seg), okC q l → okC q (dropF l v fr to)
  | [], q, _ => trivial
  | s :: l, q, h => by
    rw [drop_cons]
    exact drop_ok h0 h.1 (drop_okL h0 l (some s) h.2)
open Classical in
theorem drop_at1 (v fr to w t : Int) (x : Seg) (rest : List Seg) : atO (drop1 v fr to x ++ rest) w t = if (x.v = w ∧ x.fr ≤ t ∧ t < x.to) ∧ ¬ (w = v ∧ fr ≤ t ∧ t < to) then some x.loc else atO rest w t := by
  unfold drop1
  split
  · rename_i hn
    rw [List.singleton_append, atO_cons]
    by_cases h : x.v = w ∧ x.fr ≤ t ∧ t < x.to
    · rw [if_pos h, if_pos ⟨h, by omega⟩]
    · rw [if_neg h, if_neg (fun k => h k.1)]
  · rename_i hn
    have hn' : x.v = v ∧ fr < to ∧ fr < x.to ∧ x.fr < to := by omega
    by_cases c1 : x.fr < fr <;> by_cases c2 : x.to > to
    · rw [if_pos c1, if_pos c2]
      simp only [List.cons_append, List.nil_append, atO_cons]
      by_cases h : (x.v = w ∧ x.fr ≤ t ∧ t < x.to) ∧ ¬ (w = v ∧ fr ≤ t ∧ t < to)
      · rw [if_pos h]
        by_cases k : t < fr
        · rw [if_pos (by omega)]
        · rw [if_neg (by omega), if_pos (by omega)]
      · rw [if_neg h, if_neg (by omega), if_neg (by omega)]
    · rw [if_pos c1, if_neg c2]
      simp only [List.cons_append, List.nil_append, List.append_nil, atO_cons]
      by_cases h : (x.v = w ∧ x.fr ≤ t ∧ t < x.to) ∧ ¬ (w = v ∧ fr ≤ t ∧ t < to)
      · rw [if_pos h, if_pos (by omega)]
      · rw [if_neg h, if_neg (by omega)]
    · rw [if_neg c1, if_pos c2]
      simp only [List.cons_append, List.nil_append, atO_cons]
      by_cases h : (x.v = w ∧ x.fr ≤ t ∧ t < x.to) ∧ ¬ (w = v ∧ fr ≤ t ∧ t < to)
      · rw [if_pos h, if_pos (by omega)]
      · rw [if_neg h, if_neg (by omega)]
    · rw [if_neg c1, if_neg c2]
      simp only [List.append_nil, List.nil_append]
      rw [if_neg (by omega)]
open Classical in
theorem drop_at (v fr to w t : Int) : ∀ l : List Seg, atO (dropF l v fr to) w t = if w = v ∧ fr ≤ t ∧ t < to then none else atO l w t
  | [] => by split <;> rfl
  | s :: l => by
    rw [drop_cons, drop_at1, drop_at v fr to w t l, atO_cons]
    by_cases h : w = v ∧ fr ≤ t ∧ t < to
    · rw [if_neg (fun k => k.2 h), if_pos h, if_pos h]
    · rw [if_neg h, if_neg h]
      by_cases k : s.v = w ∧ s.fr ≤ t ∧ t < s.to
      · rw [if_pos ⟨k, h⟩, if_pos k]
      · rw [if_neg (fun k2 => k k2.1), if_neg k]
/-! Sorted. -/
theorem okC_all : ∀ {l : List Seg} {q : Option Seg}, okC q l → ∀ x ∈ l, vld x ∧ okQ q x
  | [], q, _, x, hx => by simp at hx
  | s :: l, q, h, x, hx => by
    rcases List.mem_cons.1 hx with rfl | hx
    · exact okP_iff.1 h.1
    · exact okC_all (okC_skip h.1 h.2) x hx
theorem okC_pw : ∀ {l : List Seg} {q : Option Seg}, okC q l → l.Pairwise nx
  | [], q, _ => List.Pairwise.nil
  | s :: l, q, h => List.Pairwise.cons (fun x hx => (okC_all h.2 x hx).2) (okC_pw h.2)
theorem pw_okC : ∀ {l : List Seg} {q : Option Seg}, (∀ x ∈ l, vld x) → (∀ x ∈ l, okQ q x) → l.Pairwise nx → okC q l
  | [], q, _, _, _ => trivial
  | s :: l, q, h1, h2, h3 => by
    rw [List.pairwise_cons] at h3
    exact ⟨okP_iff.2 ⟨h1 s (by simp), h2 s (by simp)⟩, pw_okC (fun x hx => h1 x (by simp [hx])) (fun x hx => h3.1 x hx) h3.2⟩
def dj (a b : Seg) : Prop := nx a b ∨ nx b a
theorem le_iff (x y : Seg) : leS x y = true ↔ ¬ cmpS y x < 0 := by simp [leS, ltS]
theorem lex2 (x y : Seg) (h : ¬ cmpS y x < 0) : x.v < y.v ∨ (x.v = y.v ∧ x.fr ≤ y.fr) := by
  simp only [cmpS, keyS, lexC] at h
  have h1 := @c3_neg y.v x.v
  have h2 := @c3_zero y.v x.v
  have h3 := @c3_neg y.fr x.fr
  have h4 := @c3_zero y.fr x.fr
  by_cases e : c3 y.v x.v = 0
  · rw [if_pos e] at h
    have ev := h2.1 e
    by_cases e2 : c3 y.fr x.fr = 0
    · have := h4.1 e2
      omega
    · rw [if_neg e2] at h
      have : ¬ y.fr < x.fr := fun k => h (h3.2 k)
      omega
  · rw [if_neg e] at h
    have : ¬ y.v < x.v := fun k => h (h1.2 k)
    have : y.v ≠ x.v := fun k => e (h2.2 k)
    omega
theorem leS_trans (a b c : Seg) (h1 : leS a b = true) (h2 : leS b c = true) : leS a c = true := by
  simp only [leS, Bool.not_eq_true'] at *
  exact swoS.ntrans c b a h2 h1
theorem leS_total (a b : Seg) : (leS a b || leS b a) = true := by
  simp only [leS, Bool.or_eq_true, Bool.not_eq_true']
  cases h : ltS b a
  · exact .inl rfl
  · right
    cases h2 : ltS a b
    · rfl
    · have := swoS.trans a b a h2 h
      rw [swoS.irrefl] at this
      cases this
theorem srt_pw (l : List Seg) : (l.mergeSort leS).Pairwise fun x y => leS x y = true := List.pairwise_mergeSort leS_trans leS_total l
theorem srt_okC {l : List Seg} (h1 : ∀ x ∈ l, vld x) (h2 : l.Pairwise dj) : okC none (l.mergeSort leS) := by
  have hp := List.mergeSort_perm l leS
  have h3 : (l.mergeSort leS).Pairwise dj := hp.symm.pairwise h2 fun {a b} h => h.symm
  refine pw_okC (fun x hx => h1 x (hp.mem_iff.1 hx)) (fun _ _ => trivial) ?_
  refine ((srt_pw l).and h3).imp_of_mem fun {a b} ha hb h => ?_
  have k := lex2 a b ((le_iff a b).1 h.1)
  have va := h1 a (hp.mem_iff.1 ha)
  have vb := h1 b (hp.mem_iff.1 hb)
  rcases h.2 with h4 | h4
  · exact h4
  · unfold nx vld at *
    omega
theorem hit_uniq : ∀ {l : List Seg} {v t : Int} {x y : Seg}, l.Pairwise dj → x ∈ l → y ∈ l → hitB v t x = true → hitB v t y = true → x = y
  | [], v, t, x, y, _, hx, _, _, _ => by simp at hx
  | s :: l, v, t, x, y, h, hx, hy, k1, k2 => by
    rw [List.pairwise_cons] at h
    have q1 := hit_iff.1 k1
    have q2 := hit_iff.1 k2
    rcases List.mem_cons.1 hx with hx | hx <;> rcases List.mem_cons.1 hy with hy | hy
    · rw [hx, hy]
    · have := h.1 y hy
      rw [← hx] at this
      unfold dj nx at this
      omega
    · have := h.1 x hx
      rw [← hy] at this
      unfold dj nx at this
      omega
    · exact hit_uniq h.2 hx hy k1 k2
theorem at_perm {l l' : List Seg} (hp : l'.Perm l) (h : l.Pairwise dj) (v t : Int) : atO l' v t = atO l v t := by
  unfold atO
  cases h1 : l.find? (hitB v t) with
  | none =>
    rw [List.find?_eq_none] at h1
    have : l'.find? (hitB v t) = none := by
      rw [List.find?_eq_none]
      exact fun x hx => h1 x (hp.mem_iff.1 hx)
    rw [this]
  | some y =>
    have hy := List.mem_of_find?_eq_some h1
    have hb := List.find?_some h1
    cases h2 : l'.find? (hitB v t) with
    | none =>
      rw [List.find?_eq_none] at h2
      exact absurd hb (h2 y (hp.mem_iff.2 hy))
    | some z =>
      have := hit_uniq h (hp.mem_iff.1 (List.mem_of_find?_eq_some h2)) hy (List.find?_some h2) hb
      rw [this]
theorem at_append (l m : List Seg) (v t : Int) : atO (l ++ m) v t = (atO l v t).or (atO m v t) := by
  unfold atO
  rw [List.find?_append]
  cases l.find? (hitB v t) <;> rfl
/-- What Put's segments are, ahead of the sort. -/
def putU (l : List Seg) (s : Seg) : List Seg := dropF l s.v s.fr s.to ++ (if s.to > s.fr then [s] else [])
theorem drop1_far {v fr to : Int} {x y : Seg} (hv : vld x) (hft : fr < to) (h : y ∈ drop1 v fr to x) : y.v ≠ v ∨ y.to ≤ fr ∨ to ≤ y.fr := by
  unfold drop1 at h
  split at h
  · rw [List.mem_singleton] at h
    subst h
    omega
  · rcases List.mem_append.1 h with h | h
    · split at h
      · rw [List.mem_singleton] at h
        subst h
        right; left; exact Int.le_refl _
      · simp at h
    · split at h
      · rw [List.mem_singleton] at h
        subst h
        right; right; exact Int.le_refl _
      · simp at h
theorem put_dj {l : List Seg} {s : Seg} (h : okC none l) (h0 : 0 ≤ s.fr) : (putU l s).Pairwise dj ∧ ∀ x ∈ putU l s, vld x := by
  have hd := drop_okL (v := s.v) (to := s.to) h0 l none h
  have hall := okC_all hd
  unfold putU
  by_cases hs : s.to > s.fr
  · rw [if_pos hs]
    refine ⟨List.pairwise_append.2 ⟨(okC_pw hd).imp fun {a b} k => .inl k, by simp, fun x hx y hy => ?_⟩, fun x hx => ?_⟩
    · rw [List.mem_singleton] at hy
      subst hy
      obtain ⟨z, hz, hz2⟩ := List.mem_flatMap.1 hx
      have := drop1_far (okC_all h z hz).1 (by omega) hz2
      unfold dj nx
      omega
    · rcases List.mem_append.1 hx with hx | hx
      · exact (hall x hx).1
      · rw [List.mem_singleton] at hx
        subst hx
        exact ⟨h0, hs⟩
  · rw [if_neg hs, List.append_nil]
    exact ⟨(okC_pw hd).imp fun {a b} k => .inl k, fun x hx => (hall x hx).1⟩
open Classical in
theorem put_at {l : List Seg} {s : Seg} (h : okC none l) (h0 : 0 ≤ s.fr) (v t : Int) : atO (putF l s) v t = if v = s.v ∧ s.fr ≤ t ∧ t < s.to then some s.loc else atO l v t := by
  have hp := put_dj h h0
  have e : putF l s = (putU l s).mergeSort leS := rfl
  rw [e, at_perm (List.mergeSort_perm _ _) hp.1]
  unfold putU
  rw [at_append, drop_at]
  by_cases k : v = s.v ∧ s.fr ≤ t ∧ t < s.to
  · rw [if_pos k, if_pos k, if_pos (by omega), atO_cons, if_pos ⟨k.1.symm, k.2⟩]
    rfl
  · rw [if_neg k, if_neg k]
    have : atO (if s.to > s.fr then [s] else []) v t = none := by
      by_cases hs : s.to > s.fr
      · rw [if_pos hs, atO_cons, if_neg (by omega)]
        rfl
      · rw [if_neg hs]
        rfl
    rw [this]
    simp
theorem put_ok {l : List Seg} {s : Seg} (h : okC none l) (h0 : 0 ≤ s.fr) : okC none (putF l s) := srt_okC (put_dj h h0).2 (put_dj h h0).1
/-! Each once, rising. -/
theorem cpt_mem : ∀ (l : List Int) (x : Int), x ∈ cpt l ↔ x ∈ l
  | [], x => by simp [cpt]
  | [a], x => by simp [cpt]
  | a :: b :: l, x => by
    rw [cpt]
    have ih := cpt_mem (b :: l) x
    split
    · rename_i h
      rw [ih, h]
      simp
    · rw [List.mem_cons, ih]
      simp
theorem cpt_rise : ∀ (l : List Int), l.Pairwise (· ≤ ·) → (cpt l).Pairwise (· < ·)
  | [], _ => by simp [cpt]
  | [a], _ => by simp [cpt]
  | a :: b :: l, h => by
    rw [List.pairwise_cons] at h
    rw [cpt]
    split
    · exact cpt_rise (b :: l) h.2
    · rename_i hab
      refine List.Pairwise.cons (fun x hx => ?_) (cpt_rise (b :: l) h.2)
      rw [cpt_mem] at hx
      have hb := h.1 b (by simp)
      have hbx : b ≤ x := by
        rcases List.mem_cons.1 hx with rfl | hx
        · exact Int.le_refl _
        · exact (List.pairwise_cons.1 h.2).1 x hx
      omega
theorem leI_pw (l : List Int) : (l.mergeSort leI).Pairwise (· ≤ ·) := by
  have := List.pairwise_mergeSort (le := leI) (fun a b c h1 h2 => by simp only [leI, decide_eq_true_eq] at *; omega) (fun a b => by simp only [leI, Bool.or_eq_true, decide_eq_true_eq]; omega) l
  exact this.imp fun {a b} h => by simpa [leI] using h
theorem vreg_mem (l : List Seg) (x : Int) : x ∈ vregF l ↔ ∃ s ∈ l, s.v = x := by
  unfold vregF
  rw [cpt_mem, List.mem_mergeSort, List.mem_map]
theorem vreg_rise (l : List Seg) : (vregF l).Pairwise (· < ·) := cpt_rise _ (leI_pw _)
theorem len_eq {a b : List Int} (ha : a.Nodup) (hb : b.Nodup) (h : ∀ x, x ∈ a ↔ x ∈ b) : a.length = b.length := by
  have : a.Perm b := by
    rw [List.perm_iff_count]
    intro x
    rw [ha.count, hb.count]
    by_cases k : x ∈ a
    · rw [if_pos k, if_pos ((h x).1 k)]
    · rw [if_neg k, if_neg (fun k2 => k ((h x).2 k2))]
  exact this.length_eq
theorem srt_srt (l : List Seg) : (l.mergeSort leS).mergeSort leS = l.mergeSort leS := List.mergeSort_of_pairwise (srt_pw l)
theorem srt_count (l : List Seg) (x : Seg) : (l.mergeSort leS).count x = l.count x := (List.mergeSort_perm l leS).count_eq x
end Go.Proofs.Ytpmabjkjolhilaa.X
namespace Go.Proofs.Ytpmabjkjolhilaa.X
open Go Go.AM Go.Proofs
attribute [local go_sem ↓] w_skip w_lbl w_ops w_draw w_pre w_post w_alt w_seq w_cond w_block w_join w_loop w_exit w_ret w_scope w_rfunc l_nil l_cons th_n th_e th_r bk_n bk_r bk_e t_nil t_it t_call i_nil i_one i_grp s_nil s_cons c_call e_mv e_nil e_frz o_mov o_bin o_eq o_un o_conv o_len o_slen o_idx o_aix o_fad o_load o_store o_boxp o_boxo o_boxm o_alloc o_alloca o_nilarr o_build o_bslp o_bslo o_slc o_sslc o_slc3 o_sidx o_mkfn o_ext o_pick o_callf o_callb o_appd o_clear o_mxn o_field o_nilc o_make o_buildm o_boxg o_mkif o_tass o_eqs o_callo k_int k_str k_bool k_grb k_grt k_some k_none k_arr k_lens k_lenf k_lenh k_idxs k_idxf k_idxh k_ld k_loadp k_loadr k_loade k_storer k_storee k_oin k_ois k_slcs k_slcf k_slch k_slc3s k_slc3f k_slc3h k_app2 k_apps k_appf k_apph k_cals k_cald k_cali k_cnb k_cna k_esn k_esc k_efn k_efc k_esh b_add b_sub b_mul b_quo b_rem b_and b_or b_xor b_andNot b_eql b_neq b_lss b_leq b_gtr b_geq b_shl b_shr b_seq b_sne b_slt b_sad q_bool q_str q_nil q_nilf u_not u_neg u_xor f_ret f_nor v_r v_c v_reg v_ob v_set v_put v_so v_sn v_pn v_pc g_nil d_nil p_nil m_mv m_fr z_nil z_cons z_an z_ac g_cons d_cons p_cons y_mov y_bin y_eq y_un y_conv y_len y_slen y_idx y_aix y_fad y_load y_store y_boxp y_boxo y_boxm y_alloc y_alloca y_nilarr y_build y_bslp y_bslo y_slc y_sslc y_slc3 y_sidx y_mkfn y_ext y_pick y_callf y_callb y_appd y_clear y_mxn y_field y_nilc y_make y_buildm y_boxg y_mkif y_tass y_eqs y_callo nb_if
attribute [local go_sem] VL_mk VL2_mk If_t If_f If_not If_and If_or If_dt If_df If_et If_ef If_ne Ck_t Ck_h Opt_s ld_a ld_c renL ren keepR renA idxM invL getObs mapOb renOb allNone putAll fzR fzO fz fzL fzOb frzOk upFrom mapR resOne resA cellsOf oneA oneAL isP isPL okSt kRows kParts fillA setAt bor bor0 bor1 bor2 borC borI key0 key1 key2 keysA fillM cellsM cellM unif ptrA ifOk kPartsM getObsM allNoneM zipU scal0 scalar eqC evNil evNilF List.map_cons List.map_nil List.cons_append List.nil_append List.append_nil List.drop_zero List.drop_succ_cons List.drop_nil List.take_succ_cons List.take_zero List.take_nil List.length_cons List.length_nil List.length_map List.getElem?_map Option.map_some Option.map_none Int.toNat_natCast Int.toNat_zero Int.toNat_one Int.natCast_nonneg List.flatMap_cons List.flatMap_nil List.all_cons List.all_nil Bool.and_true Bool.true_and Bool.and_false Bool.false_and Bool.not_true Bool.not_false beq_self_eq_true nb_self all_nil List.forall_mem_cons tk_map tk_app bs_self bs_dec bq_t bq_f Bool.not_not decide_true decide_false Bool.not_not and_self and_true true_and eq_self List.reverse_cons List.reverse_nil List.getElem?_cons_zero List.getElem?_cons_succ cond_true cond_false List.set_cons_zero List.set_cons_succ Nat.zero_add Nat.add_zero if_true if_false ite_true ite_false implies_true wrap64 wrap8
set_option linter.unusedVariables false
set_option linter.unusedSimpArgs false
set_option maxRecDepth 10000
theorem srt_uniq {l m : List Seg} (hp : m.Perm l) (hs : m.Pairwise fun x y => leS x y = true) : l.mergeSort leS = m := by
  refine List.Perm.eq_of_pairwise (le := fun x y => leS x y = true) (fun a b _ _ h1 h2 => ?_) (srt_pw l) hs ((List.mergeSort_perm l leS).trans hp.symm)
  simp only [leS, Bool.not_eq_true'] at h1 h2
  exact lt_tot h2 h1
theorem srtI_uniq {l m : List Int} (hp : m.Perm l) (hs : m.Pairwise (· ≤ ·)) : l.mergeSort leI = m :=
  List.Perm.eq_of_pairwise (le := (· ≤ ·)) (fun a b _ _ h1 h2 => Int.le_antisymm h1 h2) (leI_pw l) hs ((List.mergeSort_perm l leI).trans hp.symm)
def exL : List Seg := [⟨1, 0, 4, ⟨2, 0, 1⟩⟩, ⟨1, 4, 9, ⟨2, 0, 1⟩⟩, ⟨3, 2, 6, ⟨2, 0, 2⟩⟩]
def exJ : List Seg := [⟨1, 0, 9, ⟨2, 0, 1⟩⟩, ⟨3, 2, 6, ⟨2, 0, 2⟩⟩]
def exP : List Seg := [⟨1, 0, 2, ⟨2, 0, 1⟩⟩, ⟨1, 2, 6, ⟨2, 0, 5⟩⟩, ⟨1, 6, 9, ⟨2, 0, 1⟩⟩, ⟨3, 2, 6, ⟨2, 0, 2⟩⟩]
theorem ex_put : putF exL ⟨1, 2, 6, ⟨2, 0, 5⟩⟩ = exP := srt_uniq (by decide) (by decide)
theorem ex_vreg : vregF exL = [1, 3] := by
  unfold vregF
  rw [srtI_uniq (m := [1, 1, 3]) (by decide) (by decide)]
  decide
theorem ex_cut : (cutF exJ ([3, 5].mergeSort leI)).length = 6 := by
  rw [srtI_uniq (m := [3, 5]) (by decide) (by decide)]
  decide
set_option maxHeartbeats 4000000 in
theorem C8 : Ctr Try.prog 8 [] [] (ret [.bool true]) := by
  have h21 := C21 exL (by decide)
  rw [show jn none exL = exJ by decide] at h21
  have h24 := C24 exL ⟨1, 2, 6, ⟨2, 0, 5⟩⟩ (by decide)
  rw [ex_put] at h24
  have h9 := C9 exP 1 5 (by decide)
  rw [show atF exP 1 5 = ⟨2, 0, 5⟩ by decide, show decide (ixF (hitB 1 5) exP ≥ 0) = true by decide] at h9
  have h14 := C14 exL (by decide)
  rw [show wrongF exL = -1 by decide] at h14
  have h14b := C14 [⟨1, 3, 3, ⟨0, 0, 0⟩⟩] (by decide)
  rw [show wrongF [⟨1, 3, 3, ⟨0, 0, 0⟩⟩] = 0 by decide] at h14b
  have h10 := C10 exL 1 8 (by decide)
  rw [show ixF (hitB 1 8) exL = 1 by decide] at h10
  have h11 := C11 exL 3 (by decide)
  rw [show ofF exL 3 = [⟨3, 2, 6, ⟨2, 0, 2⟩⟩] by decide] at h11
  have h22 := C22 exJ [3, 5] (by decide) (by decide) (by rw [ex_cut]; decide)
  have hcl : ((cutF exJ ([3, 5].mergeSort leI)).map encS).length = 6 := by rw [List.length_map, ex_cut]
  generalize (cutF exJ ([3, 5].mergeSort leI)).map encS = cc at h22 hcl
  have h19 := C19 exL 1 (by decide)
  rw [show spF none (ofF exL 1) = [(0, 9)] by decide] at h19
  have h13 := C13 exL (by decide)
  rw [ex_vreg] at h13
  have h28 := C28 [1, 3] [1, 3] (by decide) (by decide)
  rw [show (([1, 3] : List Int) == [1, 3]) = true by decide] at h28
  have h25 := C25 exL 1 1 2 (by decide)
  rw [show dropF exL 1 1 2 = [⟨1, 0, 1, ⟨2, 0, 1⟩⟩, ⟨1, 2, 4, ⟨2, 0, 1⟩⟩, ⟨1, 4, 9, ⟨2, 0, 1⟩⟩, ⟨3, 2, 6, ⟨2, 0, 2⟩⟩] by decide] at h25
  have h29 := C29 ⟨1, 0, 4, ⟨2, 0, 1⟩⟩ ⟨1, 4, 9, ⟨2, 0, 1⟩⟩
  rw [show nxtB ⟨1, 0, 4, ⟨2, 0, 1⟩⟩ ⟨1, 4, 9, ⟨2, 0, 1⟩⟩ = true by decide] at h29
  have h26 := C26 [⟨3, 2, 6, ⟨2, 0, 2⟩⟩, ⟨1, 0, 4, ⟨2, 0, 1⟩⟩] (by decide)
  rw [srt_uniq (l := [⟨3, 2, 6, ⟨2, 0, 2⟩⟩, ⟨1, 0, 4, ⟨2, 0, 1⟩⟩]) (m := [⟨1, 0, 4, ⟨2, 0, 1⟩⟩, ⟨3, 2, 6, ⟨2, 0, 2⟩⟩]) (by decide) (by decide)] at h26
  simp only [exL, exJ, exP, List.map_cons, List.map_nil, encS, encN, encL, encP, List.length_cons, List.length_nil, Nat.reduceAdd] at h21 h24 h9 h14 h14b h10 h11 h22 h19 h13 h28 h25 h29 h26
  apply ctr_b A8_ok rfl (Nat.le_of_ble_eq_true rfl)
  unfold A8
  simp only [initL, Nat.reduceAdd]
  simp (config := {maxSteps := 2000000, implicitDefEqProofs := false}) (disch := omega) only [↓reduceIte, go_sem, Int.reduceToNat, Nat.reduceAdd, Nat.reduceLeDiff, Nat.reduceEqDiff, Nat.reduceSub, Nat.reduceMul, reduceCtorEq]
  refine callL (C27 1) ?_
  simp (config := {maxSteps := 2000000, implicitDefEqProofs := false}) (disch := omega) only [↓reduceIte, go_sem, Int.reduceToNat, Nat.reduceAdd, Nat.reduceLeDiff, Nat.reduceEqDiff, Nat.reduceSub, Nat.reduceMul, reduceCtorEq]
  refine callL (C27 1) ?_
  simp (config := {maxSteps := 2000000, implicitDefEqProofs := false}) (disch := omega) only [↓reduceIte, go_sem, Int.reduceToNat, Nat.reduceAdd, Nat.reduceLeDiff, Nat.reduceEqDiff, Nat.reduceSub, Nat.reduceMul, reduceCtorEq]
  refine callL (C27 2) ?_
  simp (config := {maxSteps := 2000000, implicitDefEqProofs := false}) (disch := omega) only [↓reduceIte, go_sem, Int.reduceToNat, Nat.reduceAdd, Nat.reduceLeDiff, Nat.reduceEqDiff, Nat.reduceSub, Nat.reduceMul, reduceCtorEq]
  refine callL h21 ?_
  simp (config := {maxSteps := 2000000, implicitDefEqProofs := false}) (disch := omega) only [↓reduceIte, go_sem, Int.reduceToNat, Nat.reduceAdd, Nat.reduceLeDiff, Nat.reduceEqDiff, Nat.reduceSub, Nat.reduceMul, reduceCtorEq]
  refine callL (C27 5) ?_
  simp (config := {maxSteps := 2000000, implicitDefEqProofs := false}) (disch := omega) only [↓reduceIte, go_sem, Int.reduceToNat, Nat.reduceAdd, Nat.reduceLeDiff, Nat.reduceEqDiff, Nat.reduceSub, Nat.reduceMul, reduceCtorEq]
  refine callL h24 ?_
  simp (config := {maxSteps := 2000000, implicitDefEqProofs := false}) (disch := omega) only [↓reduceIte, go_sem, Int.reduceToNat, Nat.reduceAdd, Nat.reduceLeDiff, Nat.reduceEqDiff, Nat.reduceSub, Nat.reduceMul, reduceCtorEq]
  refine callL h9 ?_
  simp (config := {maxSteps := 2000000, implicitDefEqProofs := false}) (disch := omega) only [↓reduceIte, go_sem, Int.reduceToNat, Nat.reduceAdd, Nat.reduceLeDiff, Nat.reduceEqDiff, Nat.reduceSub, Nat.reduceMul, reduceCtorEq]
  refine callL h14 ?_
  simp (config := {maxSteps := 2000000, implicitDefEqProofs := false}) (disch := omega) only [↓reduceIte, go_sem, Int.reduceToNat, Nat.reduceAdd, Nat.reduceLeDiff, Nat.reduceEqDiff, Nat.reduceSub, Nat.reduceMul, reduceCtorEq]
  refine callL h14b ?_
  simp (config := {maxSteps := 2000000, implicitDefEqProofs := false}) (disch := omega) only [↓reduceIte, go_sem, Int.reduceToNat, Nat.reduceAdd, Nat.reduceLeDiff, Nat.reduceEqDiff, Nat.reduceSub, Nat.reduceMul, reduceCtorEq]
  refine callL (C27 5) ?_
  simp (config := {maxSteps := 2000000, implicitDefEqProofs := false}) (disch := omega) only [↓reduceIte, go_sem, Int.reduceToNat, Nat.reduceAdd, Nat.reduceLeDiff, Nat.reduceEqDiff, Nat.reduceSub, Nat.reduceMul, reduceCtorEq]
  refine callL h10 ?_
  simp (config := {maxSteps := 2000000, implicitDefEqProofs := false}) (disch := omega) only [↓reduceIte, go_sem, Int.reduceToNat, Nat.reduceAdd, Nat.reduceLeDiff, Nat.reduceEqDiff, Nat.reduceSub, Nat.reduceMul, reduceCtorEq]
  refine callL h11 ?_
  simp (config := {maxSteps := 2000000, implicitDefEqProofs := false}) (disch := omega) only [↓reduceIte, go_sem, Int.reduceToNat, Nat.reduceAdd, Nat.reduceLeDiff, Nat.reduceEqDiff, Nat.reduceSub, Nat.reduceMul, reduceCtorEq]
  refine callL h22 ?_
  simp (config := {maxSteps := 2000000, implicitDefEqProofs := false}) (disch := omega) only [↓reduceIte, go_sem, Int.reduceToNat, Nat.reduceAdd, Nat.reduceLeDiff, Nat.reduceEqDiff, Nat.reduceSub, Nat.reduceMul, reduceCtorEq, hcl]
  refine callL h19 ?_
  simp (config := {maxSteps := 2000000, implicitDefEqProofs := false}) (disch := omega) only [↓reduceIte, go_sem, Int.reduceToNat, Nat.reduceAdd, Nat.reduceLeDiff, Nat.reduceEqDiff, Nat.reduceSub, Nat.reduceMul, reduceCtorEq]
  refine callL h13 ?_
  simp (config := {maxSteps := 2000000, implicitDefEqProofs := false}) (disch := omega) only [↓reduceIte, go_sem, Int.reduceToNat, Nat.reduceAdd, Nat.reduceLeDiff, Nat.reduceEqDiff, Nat.reduceSub, Nat.reduceMul, reduceCtorEq]
  refine callL h28 ?_
  simp (config := {maxSteps := 2000000, implicitDefEqProofs := false}) (disch := omega) only [↓reduceIte, go_sem, Int.reduceToNat, Nat.reduceAdd, Nat.reduceLeDiff, Nat.reduceEqDiff, Nat.reduceSub, Nat.reduceMul, reduceCtorEq]
  refine callD h25 ?_
  simp (config := {maxSteps := 2000000, implicitDefEqProofs := false}) (disch := omega) only [↓reduceIte, go_sem, Int.reduceToNat, Nat.reduceAdd, Nat.reduceLeDiff, Nat.reduceEqDiff, Nat.reduceSub, Nat.reduceMul, reduceCtorEq]
  refine callL h29 ?_
  simp (config := {maxSteps := 2000000, implicitDefEqProofs := false}) (disch := omega) only [↓reduceIte, go_sem, Int.reduceToNat, Nat.reduceAdd, Nat.reduceLeDiff, Nat.reduceEqDiff, Nat.reduceSub, Nat.reduceMul, reduceCtorEq]
  refine callL h26 ?_
  simp (config := {maxSteps := 2000000, implicitDefEqProofs := false}) (disch := omega) only [↓reduceIte, go_sem, Int.reduceToNat, Nat.reduceAdd, Nat.reduceLeDiff, Nat.reduceEqDiff, Nat.reduceSub, Nat.reduceMul, reduceCtorEq]
  refine accL (by kernel_rfl) ?_
  simp (config := {maxSteps := 2000000, implicitDefEqProofs := false}) (disch := omega) only [↓reduceIte, go_sem, Int.reduceToNat, Nat.reduceAdd, Nat.reduceLeDiff, Nat.reduceEqDiff, Nat.reduceSub, Nat.reduceMul, reduceCtorEq]
  exact ⟨rfl, rfl⟩
end Go.Proofs.Ytpmabjkjolhilaa.X
