/- Part of a proof: what functions of the program do. -/
import Derived.Test.YtpmabjkjolhilaaXu
namespace Go.Proofs.Ytpmabjkjolhilaa.X
open Go Go.AM Go.Proofs
attribute [local go_sem ↓] w_skip w_lbl w_ops w_draw w_pre w_post w_alt w_seq w_cond w_block w_join w_loop w_exit w_ret w_scope w_rfunc l_nil l_cons th_n th_e th_r bk_n bk_r bk_e t_nil t_it t_call i_nil i_one i_grp s_nil s_cons c_call e_mv e_nil e_frz o_mov o_bin o_eq o_un o_conv o_len o_slen o_idx o_aix o_fad o_load o_store o_boxp o_boxo o_boxm o_alloc o_alloca o_nilarr o_build o_bslp o_bslo o_slc o_sslc o_slc3 o_sidx o_mkfn o_ext o_pick o_callf o_callb o_appd o_clear o_mxn o_field o_nilc o_make o_buildm o_boxg o_mkif o_tass o_eqs o_callo k_int k_str k_bool k_grb k_grt k_some k_none k_arr k_lens k_lenf k_lenh k_idxs k_idxf k_idxh k_ld k_loadp k_loadr k_loade k_storer k_storee k_oin k_ois k_slcs k_slcf k_slch k_slc3s k_slc3f k_slc3h k_app2 k_apps k_appf k_apph k_cals k_cald k_cali k_cnb k_cna k_esn k_esc k_efn k_efc k_esh b_add b_sub b_mul b_quo b_rem b_and b_or b_xor b_andNot b_eql b_neq b_lss b_leq b_gtr b_geq b_shl b_shr b_seq b_sne b_slt b_sad q_bool q_str q_nil q_nilf u_not u_neg u_xor f_ret f_nor v_r v_c v_reg v_ob v_set v_put v_so v_sn v_pn v_pc g_nil d_nil p_nil m_mv m_fr z_nil z_cons z_an z_ac g_cons d_cons p_cons y_mov y_bin y_eq y_un y_conv y_len y_slen y_idx y_aix y_fad y_load y_store y_boxp y_boxo y_boxm y_alloc y_alloca y_nilarr y_build y_bslp y_bslo y_slc y_sslc y_slc3 y_sidx y_mkfn y_ext y_pick y_callf y_callb y_appd y_clear y_mxn y_field y_nilc y_make y_buildm y_boxg y_mkif y_tass y_eqs y_callo nb_if
attribute [local go_sem] VL_mk VL2_mk If_t If_f If_not If_and If_or If_dt If_df If_et If_ef If_ne Ck_t Ck_h Opt_s ld_a ld_c renL ren keepR renA idxM invL getObs mapOb renOb allNone putAll fzR fzO fz fzL fzOb frzOk upFrom mapR resOne resA cellsOf oneA oneAL isP isPL okSt kRows kParts fillA setAt bor bor0 bor1 bor2 borC borI key0 key1 key2 keysA fillM cellsM cellM unif ptrA ifOk kPartsM getObsM allNoneM zipU scal0 scalar eqC evNil evNilF List.map_cons List.map_nil List.cons_append List.nil_append List.append_nil List.drop_zero List.drop_succ_cons List.drop_nil List.take_succ_cons List.take_zero List.take_nil List.length_cons List.length_nil List.length_map List.getElem?_map Option.map_some Option.map_none Int.toNat_natCast Int.toNat_zero Int.toNat_one Int.natCast_nonneg List.flatMap_cons List.flatMap_nil List.all_cons List.all_nil Bool.and_true Bool.true_and Bool.and_false Bool.false_and Bool.not_true Bool.not_false beq_self_eq_true nb_self all_nil List.forall_mem_cons tk_map tk_app bs_self bs_dec bq_t bq_f Bool.not_not decide_true decide_false Bool.not_not and_self and_true true_and eq_self List.reverse_cons List.reverse_nil List.getElem?_cons_zero List.getElem?_cons_succ cond_true cond_false List.set_cons_zero List.set_cons_succ Nat.zero_add Nat.add_zero if_true if_false ite_true ite_false implies_true wrap64 wrap8
set_option linter.unusedVariables false
set_option linter.unusedSimpArgs false
set_option maxRecDepth 10000
theorem of_take {l : List Seg} {k : Nat} (v : Int) (h : k < l.length) : ofF (l.take (k + 1)) v = ofF (l.take k) v ++ if l[k]!.v = v then [l[k]!] else [] := by
  rw [List.take_add_one, bangS h]
  unfold ofF
  rw [List.filter_append]
  congr 1
  generalize l[k]! = x
  by_cases e : x.v = v <;> simp [e]
theorem of_at {l : List Seg} {k : Nat} {v : Int} (h : k < l.length) (e : l[k]!.v = v) : (ofF l v)[(ofF (l.take k) v).length]? = some l[k]! := by
  have h1 : ofF l v = ofF (l.take k) v ++ ofF (l.drop k) v := by
    unfold ofF
    rw [← List.filter_append, List.take_append_drop]
  rw [h1, of_drop v h, if_pos e, List.getElem?_append_right (Nat.le_refl _), Nat.sub_self]
  rfl
/-- The ids met so far. -/
def idsOk (l : List Seg) (k : Nat) (u : List Int) : Prop := u.Nodup ∧ u.length ≤ k ∧ ∀ x, x ∈ u ↔ ∃ s ∈ l.take k, s.v = x
theorem ids_old {l : List Seg} {k : Nat} {u : List Int} (h : k < l.length) (hu : idsOk l k u) (c : u.contains l[k]!.v = true) : idsOk l (k + 1) u := by
  refine ⟨hu.1, by have := hu.2.1; omega, fun x => ?_⟩
  rw [hu.2.2 x, List.take_add_one, bangS h]
  simp only [Option.toList_some, List.mem_append, List.mem_singleton]
  constructor
  · rintro ⟨s, h1, h2⟩
    exact ⟨s, .inl h1, h2⟩
  · rintro ⟨s, h1 | h1, h2⟩
    · exact ⟨s, h1, h2⟩
    · subst h1
      subst h2
      exact (hu.2.2 _).1 (by simpa using c)
theorem ids_new {l : List Seg} {k : Nat} {u : List Int} (h : k < l.length) (hu : idsOk l k u) (c : u.contains l[k]!.v = false) : idsOk l (k + 1) (u ++ [l[k]!.v]) := by
  have c' : l[k]!.v ∉ u := by simpa using c
  refine ⟨?_, by have := hu.2.1; simp; omega, fun x => ?_⟩
  · rw [List.nodup_append]
    refine ⟨hu.1, by simp, fun a ha b hb => ?_⟩
    rw [List.mem_singleton] at hb
    subst hb
    exact fun e => c' (e ▸ ha)
  · rw [List.mem_append, hu.2.2 x, List.take_add_one, bangS h]
    simp only [Option.toList_some, List.mem_append, List.mem_singleton]
    constructor
    · rintro (⟨s, h1, h2⟩ | h1)
      · exact ⟨s, .inl h1, h2⟩
      · exact ⟨_, .inr rfl, h1.symm⟩
    · rintro ⟨s, h1 | h1, h2⟩
      · exact .inl ⟨s, h1, h2⟩
      · subst h1
        exact .inr h2.symm
theorem ids_end {l : List Seg} {u : List Int} (hu : idsOk l l.length u) : (vregF l).length = u.length ∧ ∀ x ∈ vregF l, u.contains x = true := by
  have hm : ∀ x, x ∈ vregF l ↔ x ∈ u := fun x => by
    rw [vreg_mem, hu.2.2 x, List.take_length]
  exact ⟨len_eq ((vreg_rise l).imp fun {a b} h => by omega) hu.1 hm, fun x hx => by simpa using (hm x).1 hx⟩
theorem rise_at {u : List Int} (h : u.Pairwise (· < ·)) {k : Nat} (hk : k < u.length) (h0 : k ≠ 0) : u[k - 1]! < u[k]! := by
  have := (List.pairwise_iff_getElem.1 h) (k - 1) k (by omega) hk (by omega)
  rwa [getElem!_pos _ (k - 1) (by omega), getElem!_pos _ k hk]
theorem sp_len : ∀ (l : List Seg) (a : Int × Int), (spF (some a) l).length ≤ l.length + 1
  | [], a => by simp [spF]
  | s :: l, a => by
    rw [spF]
    split
    · have := sp_len l (a.1, s.to)
      simp only [List.length_cons]
      omega
    · have := sp_len l (s.fr, s.to)
      simp only [List.length_cons]
      omega
theorem sp_lenN (l : List Seg) : (spF none l).length ≤ l.length := by
  cases l with
  | nil => simp [spF]
  | cons s l => exact sp_len l _
set_option maxHeartbeats 4000000 in
theorem C3 (l : List Seg) (v p : Int) : Ctr Try.prog 3 [.sl (l.map encS), .int .i64 v, .int .i64 p] [] (ret [.bool true]) := by
  apply ctr_b A3_ok rfl (Nat.le_of_ble_eq_true rfl)
  unfold A3
  simp only [initL, Nat.reduceAdd]
  simp (config := {maxSteps := 2000000, implicitDefEqProofs := false}) (disch := omega) only [↓reduceIte, go_sem, Int.reduceToNat, Nat.reduceAdd, Nat.reduceLeDiff, Nat.reduceEqDiff, Nat.reduceSub, Nat.reduceMul, reduceCtorEq]
  refine callL (C7 l) ?_
  simp (config := {maxSteps := 2000000, implicitDefEqProofs := false}) (disch := omega) only [↓reduceIte, go_sem, Int.reduceToNat, Nat.reduceAdd, Nat.reduceLeDiff, Nat.reduceEqDiff, Nat.reduceSub, Nat.reduceMul, reduceCtorEq]
  refine ifD (fun c => ?_) (fun c => ?_)
  · have hl : l.length ≤ 40 := by omega
    have h9 := C9 l v p (by omega)
    have h10 := C10 l v p (by omega)
    have h11 := C11 l v (by omega)
    have h13 := C13 l (by omega)
    have h14 := C14 l (by omega)
    have h15 := C15 l (by omega)
    have h16 := C16 l v p (by omega)
    have h17 := C17 l v p (by omega)
    have h19 := C19 l v (by omega)
    have h20 := C20 l v (by omega)
    simp only [encL] at h9 h17
    simp (config := {maxSteps := 2000000, implicitDefEqProofs := false}) (disch := omega) only [↓reduceIte, go_sem, Int.reduceToNat, Nat.reduceAdd, Nat.reduceLeDiff, Nat.reduceEqDiff, Nat.reduceSub, Nat.reduceMul, reduceCtorEq]
    refine callL h9 ?_
    simp (config := {maxSteps := 2000000, implicitDefEqProofs := false}) (disch := omega) only [↓reduceIte, go_sem, Int.reduceToNat, Nat.reduceAdd, Nat.reduceLeDiff, Nat.reduceEqDiff, Nat.reduceSub, Nat.reduceMul, reduceCtorEq]
    refine callL h10 ?_
    simp (config := {maxSteps := 2000000, implicitDefEqProofs := false}) (disch := omega) only [↓reduceIte, go_sem, Int.reduceToNat, Nat.reduceAdd, Nat.reduceLeDiff, Nat.reduceEqDiff, Nat.reduceSub, Nat.reduceMul, reduceCtorEq]
    refine callL h11 ?_
    generalize hA : atF l v p = pl at *
    simp (config := {maxSteps := 2000000, implicitDefEqProofs := false}) (disch := omega) only [↓reduceIte, go_sem, Int.reduceToNat, Nat.reduceAdd, Nat.reduceLeDiff, Nat.reduceEqDiff, Nat.reduceSub, Nat.reduceMul, reduceCtorEq]
    refine loopL (σ := Nat × List Int) (fun s => ⟨[(0, .sl (l.map encS)), (1, .int .i64 v), (2, .int .i64 p), (7, .rp [.int .i64 pl.kind, .int .i64 pl.cls, .int .i64 pl.n]), (8, .bool (decide (ixF (hitB v p) l ≥ 0))), (9, .int .i64 (ixF (hitB v p) l)), (10, .sl ((ofF l v).map encS)), (11, .int .i64 (ofF (l.take s.1) v).length), (12, .hs 12 s.2.length 0 s.2.length), (13, .int .i64 s.1)], [(12, .arr s.2.length 1 (s.2.map encN))]⟩) (fun s => s.1 ≤ l.length ∧ idsOk l s.1 s.2) (fun s => l.length - s.1) (0, []) (by simp (config := {maxSteps := 2000000, implicitDefEqProofs := false}) (disch := omega) only [↓reduceIte, go_sem, Int.reduceToNat, Nat.reduceAdd, Nat.reduceLeDiff, Nat.reduceEqDiff, Nat.reduceSub, Nat.reduceMul, reduceCtorEq]; rfl) ⟨Nat.zero_le _, by simp [idsOk]⟩ ?_
    rintro ⟨k, u⟩ ⟨h1, h2⟩
    simp only at h1 h2
    have hu := h2.2.1
    simp (config := {maxSteps := 2000000, implicitDefEqProofs := false}) (disch := omega) only [↓reduceIte, go_sem, Int.reduceToNat, Nat.reduceAdd, Nat.reduceLeDiff, Nat.reduceEqDiff, Nat.reduceSub, Nat.reduceMul, reduceCtorEq]
    refine ifD (fun c1 => ?_) (fun c1 => ?_)
    · have hk : k < l.length := by omega
      have hg := seg_get hk
      have hot := of_take v hk
      have hoa := @of_at l k v hk
      have hio := ids_old hk h2
      have hin := ids_new hk h2
      have h12 := C12 u l[k]!.v (by omega)
      have hlt : (ofF (l.take k) v).length ≤ k := by
        have := List.length_filter_le (fun s : Seg => s.v == v) (l.take k)
        rw [List.length_take] at this
        unfold ofF
        omega
      generalize l[k]! = x at *
      simp only [encS] at hg
      simp (config := {maxSteps := 2000000, implicitDefEqProofs := false}) (disch := omega) only [↓reduceIte, go_sem, Int.reduceToNat, Nat.reduceAdd, Nat.reduceLeDiff, Nat.reduceEqDiff, Nat.reduceSub, Nat.reduceMul, reduceCtorEq]
      refine joinL (σ := Unit) (fun _ => ⟨[(0, .sl (l.map encS)), (1, .int .i64 v), (2, .int .i64 p), (7, .rp [.int .i64 pl.kind, .int .i64 pl.cls, .int .i64 pl.n]), (8, .bool (decide (ixF (hitB v p) l ≥ 0))), (9, .int .i64 (ixF (hitB v p) l)), (10, .sl ((ofF l v).map encS)), (11, .int .i64 (ofF (l.take (k + 1)) v).length), (12, .hs 12 u.length 0 u.length), (13, .int .i64 k)], [(12, .arr u.length 1 (u.map encN))]⟩) (fun _ => True) ?_ ?_
      · simp (config := {maxSteps := 2000000, implicitDefEqProofs := false}) (disch := omega) only [↓reduceIte, go_sem, Int.reduceToNat, Nat.reduceAdd, Nat.reduceLeDiff, Nat.reduceEqDiff, Nat.reduceSub, Nat.reduceMul, reduceCtorEq, hg]
        refine ifE (fun e1 => ?_) (fun e1 => ?_)
        · have hoS : Option.map encS (ofF l v)[(ofF (l.take k) v).length]? = some (encS x) := by rw [hoa e1]; rfl
          have hnl : (ofF (l.take k) v).length < (ofF l v).length := (List.getElem?_eq_some_iff.1 (hoa e1)).1
          rw [if_pos e1] at hot
          simp only [encS] at hoS
          simp (config := {maxSteps := 2000000, implicitDefEqProofs := false}) (disch := omega) only [↓reduceIte, go_sem, Int.reduceToNat, Nat.reduceAdd, Nat.reduceLeDiff, Nat.reduceEqDiff, Nat.reduceSub, Nat.reduceMul, reduceCtorEq, hg, hoS]
          refine accL (by kernel_rfl) ?_
          simp (config := {maxSteps := 2000000, implicitDefEqProofs := false}) (disch := omega) only [↓reduceIte, go_sem, Int.reduceToNat, Nat.reduceAdd, Nat.reduceLeDiff, Nat.reduceEqDiff, Nat.reduceSub, Nat.reduceMul, reduceCtorEq]
          refine ⟨(), ?_⟩
          rw [hot]
          simp
        · rw [if_neg e1, List.append_nil] at hot
          simp (config := {maxSteps := 2000000, implicitDefEqProofs := false}) (disch := omega) only [↓reduceIte, go_sem, Int.reduceToNat, Nat.reduceAdd, Nat.reduceLeDiff, Nat.reduceEqDiff, Nat.reduceSub, Nat.reduceMul, reduceCtorEq]
          refine ⟨(), ?_⟩
          rw [hot]
      · rintro _ _
        simp (config := {maxSteps := 2000000, implicitDefEqProofs := false}) (disch := omega) only [↓reduceIte, go_sem, Int.reduceToNat, Nat.reduceAdd, Nat.reduceLeDiff, Nat.reduceEqDiff, Nat.reduceSub, Nat.reduceMul, reduceCtorEq, hg]
        refine callL h12 ?_
        simp (config := {maxSteps := 2000000, implicitDefEqProofs := false}) (disch := omega) only [↓reduceIte, go_sem, Int.reduceToNat, Nat.reduceAdd, Nat.reduceLeDiff, Nat.reduceEqDiff, Nat.reduceSub, Nat.reduceMul, reduceCtorEq]
        refine ifB (fun b => ?_) (fun b => ?_)
        · simp (config := {maxSteps := 2000000, implicitDefEqProofs := false}) (disch := omega) only [↓reduceIte, go_sem, Int.reduceToNat, Nat.reduceAdd, Nat.reduceLeDiff, Nat.reduceEqDiff, Nat.reduceSub, Nat.reduceMul, reduceCtorEq]
          exact ⟨(k + 1, u), by simp, ⟨by omega, hio b⟩, by simp only; omega⟩
        · simp (config := {maxSteps := 2000000, implicitDefEqProofs := false}) (disch := omega) only [↓reduceIte, go_sem, Int.reduceToNat, Nat.reduceAdd, Nat.reduceLeDiff, Nat.reduceEqDiff, Nat.reduceSub, Nat.reduceMul, reduceCtorEq, hg]
          exact ⟨(k + 1, u ++ [x.v]), by simp [encN], ⟨by omega, hin b⟩, by simp only; omega⟩
    · have hkl : k = l.length := by omega
      have htk : l.take k = l := List.take_of_length_le (by omega)
      rw [hkl] at h2
      have hend := ids_end h2
      have hri := @rise_at (vregF l) (vreg_rise l)
      have hmem : ∀ j, j < (vregF l).length → u.contains (vregF l)[j]! = true := fun j hj => hend.2 _ (by rw [getElem!_pos _ j hj]; exact List.getElem_mem hj)
      have hlen := hend.1
      have hsp := sp_lenN (ofF l v)
      have hol : (ofF l v).length ≤ l.length := List.length_filter_le _ _
      have h18 := C18 (spF none (ofF l v)) (spF none (ofF l v)) (by omega) (by omega)
      rw [show (spF none (ofF l v) == spF none (ofF l v)) = true by simp] at h18
      simp only [htk]
      simp (config := {maxSteps := 2000000, implicitDefEqProofs := false}) (disch := omega) only [↓reduceIte, go_sem, Int.reduceToNat, Nat.reduceAdd, Nat.reduceLeDiff, Nat.reduceEqDiff, Nat.reduceSub, Nat.reduceMul, reduceCtorEq]
      refine callL h13 ?_
      generalize vregF l = G at *
      simp (config := {maxSteps := 2000000, implicitDefEqProofs := false}) (disch := omega) only [↓reduceIte, go_sem, Int.reduceToNat, Nat.reduceAdd, Nat.reduceLeDiff, Nat.reduceEqDiff, Nat.reduceSub, Nat.reduceMul, reduceCtorEq]
      refine loopL (σ := Nat) (fun s => ⟨[(0, .sl (l.map encS)), (1, .int .i64 v), (2, .int .i64 p), (7, .rp [.int .i64 pl.kind, .int .i64 pl.cls, .int .i64 pl.n]), (8, .bool (decide (ixF (hitB v p) l ≥ 0))), (9, .int .i64 (ixF (hitB v p) l)), (10, .sl ((ofF l v).map encS)), (11, .int .i64 (ofF l v).length), (12, .hs 12 u.length 0 u.length), (14, .sl (G.map encN)), (15, .int .i64 s)], [(12, .arr u.length 1 (u.map encN))]⟩) (fun s => s ≤ G.length) (fun s => G.length - s) 0 (by simp (config := {maxSteps := 2000000, implicitDefEqProofs := false}) (disch := omega) only [↓reduceIte, go_sem, Int.reduceToNat, Nat.reduceAdd, Nat.reduceLeDiff, Nat.reduceEqDiff, Nat.reduceSub, Nat.reduceMul, reduceCtorEq]; rfl) (Nat.zero_le _) ?_
      rintro j h3
      simp (config := {maxSteps := 2000000, implicitDefEqProofs := false}) (disch := omega) only [↓reduceIte, go_sem, Int.reduceToNat, Nat.reduceAdd, Nat.reduceLeDiff, Nat.reduceEqDiff, Nat.reduceSub, Nat.reduceMul, reduceCtorEq]
      refine ifD (fun c2 => ?_) (fun c2 => ?_)
      · have hj : j < G.length := by omega
        have hgj := num_get hj
        have hm := hmem j hj
        have hr := hri hj
        have hgp := num_get (show j - 1 < G.length by omega)
        have h12 := C12 u G[j]! (by omega)
        rw [hm] at h12
        generalize G[j]! = w at *
        generalize G[j - 1]! = w1 at *
        simp only [encN] at hgj hgp
        simp (config := {maxSteps := 2000000, implicitDefEqProofs := false}) (disch := omega) only [↓reduceIte, go_sem, Int.reduceToNat, Nat.reduceAdd, Nat.reduceLeDiff, Nat.reduceEqDiff, Nat.reduceSub, Nat.reduceMul, reduceCtorEq, hgj]
        refine callL h12 ?_
        simp (config := {maxSteps := 2000000, implicitDefEqProofs := false}) (disch := omega) only [↓reduceIte, go_sem, Int.reduceToNat, Nat.reduceAdd, Nat.reduceLeDiff, Nat.reduceEqDiff, Nat.reduceSub, Nat.reduceMul, reduceCtorEq]
        refine ifD (fun c3 => ?_) (fun c3 => ?_)
        · have t1 : ((j : Int) - 1).toNat = j - 1 := by omega
          have hr' := hr (by omega)
          simp (config := {maxSteps := 2000000, implicitDefEqProofs := false}) (disch := omega) only [↓reduceIte, go_sem, Int.reduceToNat, Nat.reduceAdd, Nat.reduceLeDiff, Nat.reduceEqDiff, Nat.reduceSub, Nat.reduceMul, reduceCtorEq, hgj, hgp, t1]
          refine accL (by kernel_rfl) ?_
          simp (config := {maxSteps := 2000000, implicitDefEqProofs := false}) (disch := omega) only [↓reduceIte, go_sem, Int.reduceToNat, Nat.reduceAdd, Nat.reduceLeDiff, Nat.reduceEqDiff, Nat.reduceSub, Nat.reduceMul, reduceCtorEq]
          exact ⟨j + 1, by simp, by omega, by omega⟩
        · simp (config := {maxSteps := 2000000, implicitDefEqProofs := false}) (disch := omega) only [↓reduceIte, go_sem, Int.reduceToNat, Nat.reduceAdd, Nat.reduceLeDiff, Nat.reduceEqDiff, Nat.reduceSub, Nat.reduceMul, reduceCtorEq]
          refine accL (by kernel_rfl) ?_
          simp (config := {maxSteps := 2000000, implicitDefEqProofs := false}) (disch := omega) only [↓reduceIte, go_sem, Int.reduceToNat, Nat.reduceAdd, Nat.reduceLeDiff, Nat.reduceEqDiff, Nat.reduceSub, Nat.reduceMul, reduceCtorEq]
          exact ⟨j + 1, by simp, by omega, by omega⟩
      · simp (config := {maxSteps := 2000000, implicitDefEqProofs := false}) (disch := omega) only [↓reduceIte, go_sem, Int.reduceToNat, Nat.reduceAdd, Nat.reduceLeDiff, Nat.reduceEqDiff, Nat.reduceSub, Nat.reduceMul, reduceCtorEq]
        refine callL h14 ?_
        simp (config := {maxSteps := 2000000, implicitDefEqProofs := false}) (disch := omega) only [↓reduceIte, go_sem, Int.reduceToNat, Nat.reduceAdd, Nat.reduceLeDiff, Nat.reduceEqDiff, Nat.reduceSub, Nat.reduceMul, reduceCtorEq]
        refine callL h15 ?_
        simp (config := {maxSteps := 2000000, implicitDefEqProofs := false}) (disch := omega) only [↓reduceIte, go_sem, Int.reduceToNat, Nat.reduceAdd, Nat.reduceLeDiff, Nat.reduceEqDiff, Nat.reduceSub, Nat.reduceMul, reduceCtorEq]
        refine callL h16 ?_
        simp (config := {maxSteps := 2000000, implicitDefEqProofs := false}) (disch := omega) only [↓reduceIte, go_sem, Int.reduceToNat, Nat.reduceAdd, Nat.reduceLeDiff, Nat.reduceEqDiff, Nat.reduceSub, Nat.reduceMul, reduceCtorEq]
        refine callL h17 ?_
        simp (config := {maxSteps := 2000000, implicitDefEqProofs := false}) (disch := omega) only [↓reduceIte, go_sem, Int.reduceToNat, Nat.reduceAdd, Nat.reduceLeDiff, Nat.reduceEqDiff, Nat.reduceSub, Nat.reduceMul, reduceCtorEq]
        refine callL h19 ?_
        simp (config := {maxSteps := 2000000, implicitDefEqProofs := false}) (disch := omega) only [↓reduceIte, go_sem, Int.reduceToNat, Nat.reduceAdd, Nat.reduceLeDiff, Nat.reduceEqDiff, Nat.reduceSub, Nat.reduceMul, reduceCtorEq]
        refine callL h20 ?_
        simp (config := {maxSteps := 2000000, implicitDefEqProofs := false}) (disch := omega) only [↓reduceIte, go_sem, Int.reduceToNat, Nat.reduceAdd, Nat.reduceLeDiff, Nat.reduceEqDiff, Nat.reduceSub, Nat.reduceMul, reduceCtorEq]
        refine callL h18 ?_
        simp (config := {maxSteps := 2000000, implicitDefEqProofs := false}) (disch := omega) only [↓reduceIte, go_sem, Int.reduceToNat, Nat.reduceAdd, Nat.reduceLeDiff, Nat.reduceEqDiff, Nat.reduceSub, Nat.reduceMul, reduceCtorEq]
        refine callL C8 ?_
        simp (config := {maxSteps := 2000000, implicitDefEqProofs := false}) (disch := omega) only [↓reduceIte, go_sem, Int.reduceToNat, Nat.reduceAdd, Nat.reduceLeDiff, Nat.reduceEqDiff, Nat.reduceSub, Nat.reduceMul, reduceCtorEq]
        refine accL (by kernel_rfl) ?_
        simp (config := {maxSteps := 2000000, implicitDefEqProofs := false}) (disch := omega) only [↓reduceIte, go_sem, Int.reduceToNat, Nat.reduceAdd, Nat.reduceLeDiff, Nat.reduceEqDiff, Nat.reduceSub, Nat.reduceMul, reduceCtorEq]
        exact ⟨rfl, rfl⟩
  · simp (config := {maxSteps := 2000000, implicitDefEqProofs := false}) (disch := omega) only [↓reduceIte, go_sem, Int.reduceToNat, Nat.reduceAdd, Nat.reduceLeDiff, Nat.reduceEqDiff, Nat.reduceSub, Nat.reduceMul, reduceCtorEq]
    refine callL C8 ?_
    simp (config := {maxSteps := 2000000, implicitDefEqProofs := false}) (disch := omega) only [↓reduceIte, go_sem, Int.reduceToNat, Nat.reduceAdd, Nat.reduceLeDiff, Nat.reduceEqDiff, Nat.reduceSub, Nat.reduceMul, reduceCtorEq]
    exact ⟨rfl, rfl⟩
end Go.Proofs.Ytpmabjkjolhilaa.X
