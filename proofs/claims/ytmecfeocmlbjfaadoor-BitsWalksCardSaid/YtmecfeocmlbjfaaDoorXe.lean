/- Part of a proof: what functions of the program do. -/
import Derived.Test.YtmecfeocmlbjfaaDoorXd
namespace Go.Proofs.YtmecfeocmlbjfaaDoor.X
open Go Go.AM Go.Proofs
attribute [local go_sem ↓] w_skip w_lbl w_ops w_draw w_pre w_post w_alt w_seq w_cond w_block w_join w_loop w_exit w_ret w_scope w_rfunc l_nil l_cons th_n th_e th_r bk_n bk_r bk_e t_nil t_it t_call i_nil i_one i_grp s_nil s_cons c_call e_mv e_nil e_frz o_mov o_bin o_eq o_un o_conv o_len o_slen o_idx o_aix o_fad o_load o_store o_boxp o_boxo o_boxm o_alloc o_allocm o_alloca o_nilarr o_build o_bslp o_bslo o_slc o_sslc o_slc3 o_sidx o_mkfn o_mkmv o_vidx o_ext o_pick o_callf o_callb o_appd o_clear o_mxn o_field o_nilc o_make o_buildm o_boxg o_mkif o_tass o_eqs o_callo o_callx k_int k_str k_bool k_grb k_grt k_some k_none k_arr k_lens k_lenf k_lenh k_idxs k_idxf k_idxh k_ld k_loadp k_loadr k_loade k_storer k_storee k_oin k_ois k_slcs k_slcf k_slch k_slc3s k_slc3f k_slc3h k_app2 k_apps k_appf k_apph k_cals k_cald k_cali k_cnb k_cna k_esn k_esc k_efn k_efc k_esh b_add b_sub b_mul b_quo b_rem b_and b_or b_xor b_andNot b_eql b_neq b_lss b_leq b_gtr b_geq b_shl b_shr b_seq b_sne b_slt b_sad q_bool q_str q_nil q_nilf u_not u_neg u_xor f_ret f_nor v_r v_c v_g v_reg v_ob v_set v_put v_so v_sn v_pn v_pc g_nil d_nil p_nil m_mv m_fr z_nil z_cons z_an z_ac g_cons d_cons p_cons y_mov y_bin y_eq y_un y_conv y_len y_slen y_idx y_aix y_fad y_load y_store y_boxp y_boxo y_boxm y_alloc y_alloca y_allocm y_nilarr y_build y_bslp y_bslo y_slc y_sslc y_slc3 y_sidx y_mkfn y_ext y_pick y_callf y_callb y_appd y_clear y_mxn y_field y_nilc y_make y_buildm y_boxg y_mkif y_tass y_eqs y_callo y_mkmv y_callx y_vidx nb_if
attribute [local go_sem] nbd VL_mk VL2_mk If_t If_f If_not If_and If_or If_dt If_df If_et If_ef If_ne Ck_t Ck_h Opt_s ld_a ld_c lm_a lm_c renL ren keepR renA idxM invL getObs mapOb renOb allNone putAll fzR fzO fz fzL fzOb frzOk upFrom mapR resOne resA cellsOf oneA oneAL isP isPL okSt kRows kParts fillA setAt bor bor0 bor1 bor2 borC borI key0 key1 key2 keysA fillM cellsM cellM unif ptrA ifOk kPartsM getObsM allNoneM zipU scal0 scalar eqC evNil evNilF memK keyX hideM xbor scal1 scalX scalOb bndA mkMag showM lendV hideV hideR hideOb hideL hideO showL backO noneO mapA List.map_cons List.map_nil List.cons_append List.nil_append List.append_nil List.drop_zero List.drop_succ_cons List.drop_nil List.take_succ_cons List.take_zero List.take_nil List.length_cons List.length_nil List.length_map List.getElem?_map Option.map_some Option.map_none Int.toNat_natCast Int.toNat_zero Int.toNat_one Int.natCast_nonneg List.flatMap_cons List.flatMap_nil List.all_cons List.all_nil List.any_cons List.any_nil Bool.or_false Bool.false_or Bool.or_true Bool.true_or Bool.and_true Bool.true_and Bool.and_false Bool.false_and Bool.not_true Bool.not_false beq_self_eq_true nb_self all_nil List.forall_mem_cons tk_map tk_app bs_self bs_dec bq_t bq_f Bool.not_not decide_true decide_false Bool.not_not and_self and_true true_and eq_self List.reverse_cons List.reverse_nil List.getElem?_cons_zero List.getElem?_cons_succ cond_true cond_false List.set_cons_zero List.set_cons_succ Nat.zero_add Nat.add_zero if_true if_false ite_true ite_false implies_true wrap64 wrap8
open Go.Bits
set_option linter.unusedVariables false
set_option linter.unusedSimpArgs false
set_option maxRecDepth 10000
set_option maxHeartbeats 4000000
def encB (b : Bool) : List AV := [.bool b]
def refS (bs : List Bool) : AV := .agg [.sl (bs.map encB)]
theorem encB_get {bs : List Bool} {i : Nat} {x : Bool} (h : bs[i]? = some x) : (bs.map encB)[i]? = some [.bool x] := by rw [List.getElem?_map, h]; rfl
theorem getD_some {bs : List Bool} {i : Nat} (h : i < bs.length) : bs[i]? = some (bs.getD i false) := by
  rw [List.getD_eq_getElem?_getD, List.getElem?_eq_getElem h]; rfl
theorem rep_enc (n : Nat) : List.replicate n [AV.bool false] = (noneB n).map encB := by simp [noneB, encB]
theorem C12 (n : Int) (hn : n < 1000000000) : Ctr Tryd.prog 12 [.int .i64 n] [] (retO [.mag [.hs 0 0 0 n.toNat]] [.arr 0 1 ((noneB n.toNat).map encB)]) := by
  apply ctr_b A12_ok rfl (Nat.le_of_ble_eq_true rfl)
  unfold A12
  simp only [initL, Nat.reduceAdd]
  simp (config := {maxSteps := 2000000, implicitDefEqProofs := false}) (disch := omega) only [↓reduceIte, go_sem, Int.reduceToNat, Nat.reduceAdd, Nat.reduceLeDiff, Nat.reduceEqDiff, Nat.reduceSub, Nat.reduceMul, reduceCtorEq]
  refine ifD (fun h => ?_) (fun h => ?_)
  · have : n.toNat = 0 := by omega
    simp (config := {maxSteps := 2000000, implicitDefEqProofs := false}) (disch := omega) only [↓reduceIte, go_sem, Int.reduceToNat, Nat.reduceAdd, Nat.reduceLeDiff, Nat.reduceEqDiff, Nat.reduceSub, Nat.reduceMul, reduceCtorEq]
    rw [this]
    exact ⟨rfl, rfl⟩
  · simp (config := {maxSteps := 2000000, implicitDefEqProofs := false}) (disch := omega) only [↓reduceIte, go_sem, Int.reduceToNat, Nat.reduceAdd, Nat.reduceLeDiff, Nat.reduceEqDiff, Nat.reduceSub, Nat.reduceMul, reduceCtorEq]
    rw [rep_enc]
    exact ⟨rfl, rfl⟩
theorem C17 (bs : List Bool) (i : Int) (hl : bs.length < 1000000000) : Ctr Tryd.prog 17 [refS bs, .int .i64 i] [] (ret [.bool (hasB bs i)]) := by
  unfold refS
  apply ctr_b A17_ok rfl (Nat.le_of_ble_eq_true rfl)
  unfold A17
  simp only [initL, Nat.reduceAdd]
  simp (config := {maxSteps := 2000000, implicitDefEqProofs := false}) (disch := omega) only [↓reduceIte, go_sem, Int.reduceToNat, Nat.reduceAdd, Nat.reduceLeDiff, Nat.reduceEqDiff, Nat.reduceSub, Nat.reduceMul, reduceCtorEq]
  by_cases h0 : 0 ≤ i
  · obtain ⟨m, rfl⟩ := Int.eq_ofNat_of_zero_le h0
    by_cases h1 : m < bs.length
    · have hg := getD_some h1
      have e : hasB bs (m : Int) = bs.getD m false := by simp [hasB]
      simp (config := {maxSteps := 2000000, implicitDefEqProofs := false}) (disch := omega) only [↓reduceIte, go_sem, Int.reduceToNat, Nat.reduceAdd, Nat.reduceLeDiff, Nat.reduceEqDiff, Nat.reduceSub, Nat.reduceMul, reduceCtorEq, hg, encB]
      rw [e]
      exact ⟨rfl, rfl⟩
    · have e : hasB bs (m : Int) = false := by simp [hasB, List.getElem?_eq_none (Nat.le_of_not_lt h1)]
      simp (config := {maxSteps := 2000000, implicitDefEqProofs := false}) (disch := omega) only [↓reduceIte, go_sem, Int.reduceToNat, Nat.reduceAdd, Nat.reduceLeDiff, Nat.reduceEqDiff, Nat.reduceSub, Nat.reduceMul, reduceCtorEq]
      rw [e]
      exact ⟨rfl, rfl⟩
  · have e : hasB bs i = false := by simp [hasB, h0]
    simp (config := {maxSteps := 2000000, implicitDefEqProofs := false}) (disch := omega) only [↓reduceIte, go_sem, Int.reduceToNat, Nat.reduceAdd, Nat.reduceLeDiff, Nat.reduceEqDiff, Nat.reduceSub, Nat.reduceMul, reduceCtorEq]
    rw [e]
    exact ⟨rfl, rfl⟩
def withS (bs : List Bool) (i : Int) (b : Bool) : List Bool := if inB bs i = true then bs.set i.toNat b else bs
def withR (bs : List Bool) (i : Int) (b : Bool) : Bool := inB bs i && (bs.getD i.toNat false != b)
theorem C26 (bs : List Bool) (i : Int) (b : Bool) (hl : bs.length < 1000000000) : Ctr Tryd.prog 26 [refS bs, .int .i64 i, .bool b] [] (ret [refS (withS bs i b), .bool (withR bs i b)]) := by
  unfold refS
  apply ctr_b A26_ok rfl (Nat.le_of_ble_eq_true rfl)
  unfold A26
  simp only [initL, Nat.reduceAdd]
  simp (config := {maxSteps := 2000000, implicitDefEqProofs := false}) (disch := omega) only [↓reduceIte, go_sem, Int.reduceToNat, Nat.reduceAdd, Nat.reduceLeDiff, Nat.reduceEqDiff, Nat.reduceSub, Nat.reduceMul, reduceCtorEq]
  by_cases h0 : 0 ≤ i
  · obtain ⟨m, rfl⟩ := Int.eq_ofNat_of_zero_le h0
    by_cases h1 : m < bs.length
    · have hg := getD_some h1
      have hin : inB bs (m : Int) = true := by simp [inB, h1]
      have e1 : withS bs (m : Int) b = bs.set m b := by simp [withS, hin]
      have e2 : withR bs (m : Int) b = (bs.getD m false != b) := by simp only [withR, hin, Bool.true_and, Int.toNat_natCast]
      simp (config := {maxSteps := 2000000, implicitDefEqProofs := false}) (disch := omega) only [↓reduceIte, go_sem, Int.reduceToNat, Nat.reduceAdd, Nat.reduceLeDiff, Nat.reduceEqDiff, Nat.reduceSub, Nat.reduceMul, reduceCtorEq, hg, encB]
      cases hb : (bs.getD m false == b) with
      | true =>
        have hb' : bs.getD m false = b := by simpa using hb
        simp (config := {maxSteps := 2000000, implicitDefEqProofs := false}) (disch := omega) only [↓reduceIte, go_sem, Int.reduceToNat, Nat.reduceAdd, Nat.reduceLeDiff, Nat.reduceEqDiff, Nat.reduceSub, Nat.reduceMul, reduceCtorEq]
        rw [e1, e2, set_same bs m b hb', hb']
        simp [ret]
      | false =>
        have hb' : (bs.getD m false != b) = true := by rw [bne, hb]; rfl
        have hset : (bs.map encB).set m [.bool b] = (bs.set m b).map encB := by rw [List.map_set]; rfl
        have hap : ∀ c ∈ bs.map encB, c.length = 1 := by rintro c hc; obtain ⟨x, _, rfl⟩ := List.mem_map.1 hc; rfl
        have htk : ((bs.set m b).map encB).take bs.length = (bs.set m b).map encB := List.take_of_length_le (by simp)
        simp (config := {maxSteps := 2000000, implicitDefEqProofs := false}) (disch := omega) only [↓reduceIte, go_sem, Int.reduceToNat, Nat.reduceAdd, Nat.reduceLeDiff, Nat.reduceEqDiff, Nat.reduceSub, Nat.reduceMul, reduceCtorEq, hg, encB, hset, htk]
        rw [e1, e2, hb']
        exact ⟨rfl, rfl⟩
    · have hin : inB bs (m : Int) = false := by simp [inB]; omega
      simp (config := {maxSteps := 2000000, implicitDefEqProofs := false}) (disch := omega) only [↓reduceIte, go_sem, Int.reduceToNat, Nat.reduceAdd, Nat.reduceLeDiff, Nat.reduceEqDiff, Nat.reduceSub, Nat.reduceMul, reduceCtorEq]
      simp [withS, withR, hin, ret]
  · have hin : inB bs i = false := by simp [inB]; omega
    simp (config := {maxSteps := 2000000, implicitDefEqProofs := false}) (disch := omega) only [↓reduceIte, go_sem, Int.reduceToNat, Nat.reduceAdd, Nat.reduceLeDiff, Nat.reduceEqDiff, Nat.reduceSub, Nat.reduceMul, reduceCtorEq]
    simp [withS, withR, hin, ret]
def hows : Nat → Bool → Bool → Bool
  | 1 => fun x y => x || y
  | 2 => fun x y => x && y
  | _ => fun x y => x && !y
def partB (T bs : List Bool) (s : Nat) : List (List AV) := (T.take s ++ (noneB bs.length).drop s).map encB
theorem partB_zero {T bs : List Bool} : partB T bs 0 = (noneB bs.length).map encB := by simp [partB]
theorem partB_all {T bs : List Bool} (h : T.length = bs.length) : partB T bs bs.length = T.map encB := by
  unfold partB
  rw [List.take_of_length_le (by omega), List.drop_of_length_le (by rw [noneB_len]; omega), List.append_nil]
theorem partB_len {T bs : List Bool} (h : T.length = bs.length) {s : Nat} (hs : s ≤ bs.length) : (T.take s ++ (noneB bs.length).drop s).length = bs.length := by
  rw [List.length_append, List.length_take, List.length_drop, noneB_len]; omega
theorem partB_get {T bs : List Bool} (h : T.length = bs.length) {s : Nat} (hs : s < bs.length) : ∃ z, (partB T bs s)[s]? = some [.bool z] := by
  unfold partB
  have hl := partB_len h (Nat.le_of_lt hs)
  exact ⟨_, encB_get (List.getElem?_eq_getElem (by omega))⟩
theorem partB_set {T bs : List Bool} (h : T.length = bs.length) {s : Nat} (hs : s < bs.length) : (partB T bs s).set s [.bool (T.getD s false)] = partB T bs (s + 1) := by
  unfold partB
  have h1 : (T.take s).length = s := by rw [List.length_take]; omega
  have h2 : (noneB bs.length).drop s = false :: (noneB bs.length).drop (s + 1) := by
    have h3 : s < (noneB bs.length).length := by rw [noneB_len]; exact hs
    rw [← List.getElem_cons_drop h3]
    simp [noneB]
  have h5 : T.take (s + 1) = T.take s ++ [T.getD s false] := by rw [List.take_add_one, getD_some (by omega)]; rfl
  rw [show ([.bool (T.getD s false)] : List AV) = encB (T.getD s false) from rfl, ← List.map_set, h2, List.set_append_right _ _ (by omega), h1, Nat.sub_self, List.set_cons_zero, h5, List.append_assoc]
  rfl
theorem partB_get2 {T bs : List Bool} (h : T.length = bs.length) {s : Nat} (hs : s < bs.length) : (partB T bs (s + 1))[s]? = some [.bool (T.getD s false)] := by
  have hl : s < (partB T bs s).length := by unfold partB; rw [List.length_map, partB_len h (Nat.le_of_lt hs)]; exact hs
  rw [← partB_set h hs, List.getElem?_set_self hl]
def chgB (T bs : List Bool) (s : Nat) : Bool := (List.range s).any fun k => T.getD k false != bs.getD k false
theorem chgB_succ {T bs : List Bool} {s : Nat} : chgB T bs (s + 1) = (chgB T bs s || (T.getD s false != bs.getD s false)) := by
  simp [chgB, List.range_succ, List.any_append]
theorem chgB_all {T bs : List Bool} (h : T.length = bs.length) : chgB T bs bs.length = (T != bs) := by
  cases hc : chgB T bs bs.length with
  | false =>
    have : T = bs := by
      apply List.ext_getElem?
      intro k
      by_cases hk : k < bs.length
      · unfold chgB at hc
        rw [List.any_eq_false] at hc
        have := hc k (List.mem_range.2 hk)
        rw [getD_some hk, getD_some (by omega)]
        congr 1
        simpa using this
      · rw [List.getElem?_eq_none (by omega), List.getElem?_eq_none (by omega)]
    rw [this]
    simp
  | true =>
    unfold chgB at hc
    rw [List.any_eq_true] at hc
    obtain ⟨k, _, hk⟩ := hc
    have hne : T ≠ bs := fun e => by subst e; simp at hk
    simp [hne]
theorem C29 (how : Nat) (hh : how = 1 ∨ how = 2 ∨ how = 3) (bs os : List Bool) (hl : bs.length < 1000000000) (hl2 : os.length < 1000000000) :
    Ctr Tryd.prog 29 [.int .i64 (how : Int), refS bs, refS os] [] (ret [refS (two (hows how) bs os), .bool (two (hows how) bs os != bs)]) := by
  have hT := two_len (hows how) bs os
  obtain ⟨T, hTe⟩ : ∃ T, T = two (hows how) bs os := ⟨_, rfl⟩
  rw [← hTe] at hT ⊢
  unfold refS
  apply ctr_b A29_ok rfl (Nat.le_of_ble_eq_true rfl)
  unfold A29
  simp only [initL, Nat.reduceAdd]
  simp (config := {maxSteps := 2000000, implicitDefEqProofs := false}) (disch := omega) only [↓reduceIte, go_sem, Int.reduceToNat, Nat.reduceAdd, Nat.reduceLeDiff, Nat.reduceEqDiff, Nat.reduceSub, Nat.reduceMul, reduceCtorEq]
  have hN := C12 (bs.length : Int) (by omega)
  rw [Int.toNat_natCast] at hN
  refine callD hN ?_
  simp (config := {maxSteps := 2000000, implicitDefEqProofs := false}) (disch := omega) only [↓reduceIte, go_sem, Int.reduceToNat, Nat.reduceAdd, Nat.reduceLeDiff, Nat.reduceEqDiff, Nat.reduceSub, Nat.reduceMul, reduceCtorEq]
  refine loopL (σ := Nat) (fun s => ⟨[(0, .int .i64 (how : Int)), (4, .rp [.sl (bs.map encB)]), (5, .rp [.sl (os.map encB)]), (6, .ref 6 0), (8, .ref 8 0), (9, .bool (chgB T bs s)), (10, .int .i64 (s : Nat))],
      [(6, .pbox [.sl []]), (8, .box [.hs 60 0 0 bs.length]), (60, .arr 0 1 (partB T bs s))]⟩) (fun s => s ≤ bs.length) (fun s => bs.length - s) 0 (by simp (config := {maxSteps := 2000000, implicitDefEqProofs := false}) (disch := omega) only [↓reduceIte, go_sem, Int.reduceToNat, Nat.reduceAdd, Nat.reduceLeDiff, Nat.reduceEqDiff, Nat.reduceSub, Nat.reduceMul, reduceCtorEq]; rw [partB_zero]; rfl) (Nat.zero_le _) ?_
  intro s hs
  simp (config := {maxSteps := 2000000, implicitDefEqProofs := false}) (disch := omega) only [↓reduceIte, go_sem, Int.reduceToNat, Nat.reduceAdd, Nat.reduceLeDiff, Nat.reduceEqDiff, Nat.reduceSub, Nat.reduceMul, reduceCtorEq]
  refine ifD (fun c => ?_) (fun c => ?_)
  · have hlt : s < bs.length := by omega
    have g1 := encB_get (getD_some hlt)
    have g2 := partB_set hT hlt
    obtain ⟨z, g3⟩ := partB_get hT hlt
    have g4 : IntKind.i64.wrap ((s : Int) + 1) = ((s + 1 : Nat) : Int) := by rw [← wrapI (m := s + 1) (by omega)]; congr 1
    have g5 := partB_get2 hT hlt
    have hTs : T.getD s false = hows how (bs.getD s false) (os.getD s false) := by rw [hTe, two_get]; simp [hlt]
    have hH := C17 os (s : Int) hl2
    rw [show hasB os (s : Int) = os.getD s false by simp [hasB]] at hH
    unfold refS at hH
    have hch := chgB_succ (T := T) (bs := bs) (s := s)
    rw [hTs] at g2 g5 hch
    clear hTs
    generalize os.getD s false = y at *
    generalize bs.getD s false = x at *
    simp (config := {maxSteps := 2000000, implicitDefEqProofs := false}) (disch := omega) only [↓reduceIte, go_sem, Int.reduceToNat, Nat.reduceAdd, Nat.reduceLeDiff, Nat.reduceEqDiff, Nat.reduceSub, Nat.reduceMul, reduceCtorEq, g1]
    refine callL hH ?_
    simp (config := {maxSteps := 2000000, implicitDefEqProofs := false}) (disch := omega) only [↓reduceIte, go_sem, Int.reduceToNat, Nat.reduceAdd, Nat.reduceLeDiff, Nat.reduceEqDiff, Nat.reduceSub, Nat.reduceMul, reduceCtorEq, g1]
    refine accL (by kernel_rfl) ?_
    rcases hh with rfl | rfl | rfl
    · cases x <;> cases y <;> cases hc : chgB T bs s
      all_goals
        simp only [hows, Bool.or_true, Bool.or_false, Bool.true_or, Bool.false_or, Bool.and_true, Bool.and_false, hc, bne_self_eq_false, Bool.not_true, Bool.not_false] at g2 g5 hch
        simp (config := {maxSteps := 2000000, implicitDefEqProofs := false}) (disch := omega) only [↓reduceIte, go_sem, Int.reduceToNat, Nat.reduceAdd, Nat.reduceLeDiff, Nat.reduceEqDiff, Nat.reduceSub, Nat.reduceMul, reduceCtorEq, g3, g2, g5, g4]
        refine ⟨s + 1, ?_, by omega, by omega⟩
        try rw [hch]
        try rfl
    · cases x <;> cases y <;> cases hc : chgB T bs s
      all_goals
        simp only [hows, Bool.or_true, Bool.or_false, Bool.true_or, Bool.false_or, Bool.and_true, Bool.and_false, hc, bne_self_eq_false, Bool.not_true, Bool.not_false] at g2 g5 hch
        simp (config := {maxSteps := 2000000, implicitDefEqProofs := false}) (disch := omega) only [↓reduceIte, go_sem, Int.reduceToNat, Nat.reduceAdd, Nat.reduceLeDiff, Nat.reduceEqDiff, Nat.reduceSub, Nat.reduceMul, reduceCtorEq, g3, g2, g5, g4]
        refine ⟨s + 1, ?_, by omega, by omega⟩
        try rw [hch]
        try rfl
    · cases x <;> cases y <;> cases hc : chgB T bs s
      all_goals
        simp only [hows, Bool.or_true, Bool.or_false, Bool.true_or, Bool.false_or, Bool.and_true, Bool.and_false, hc, bne_self_eq_false, Bool.not_true, Bool.not_false] at g2 g5 hch
        simp (config := {maxSteps := 2000000, implicitDefEqProofs := false}) (disch := omega) only [↓reduceIte, go_sem, Int.reduceToNat, Nat.reduceAdd, Nat.reduceLeDiff, Nat.reduceEqDiff, Nat.reduceSub, Nat.reduceMul, reduceCtorEq, g3, g2, g5, g4]
        refine ⟨s + 1, ?_, by omega, by omega⟩
        try rw [hch]
        try rfl
  · have hs : s = bs.length := by omega
    subst hs
    have e1 : (partB T bs bs.length).take bs.length = T.map encB := by rw [partB_all hT, List.take_of_length_le (by rw [List.length_map]; omega)]
    simp (config := {maxSteps := 2000000, implicitDefEqProofs := false}) (disch := omega) only [↓reduceIte, go_sem, Int.reduceToNat, Nat.reduceAdd, Nat.reduceLeDiff, Nat.reduceEqDiff, Nat.reduceSub, Nat.reduceMul, reduceCtorEq, e1]
    rw [chgB_all hT]
    exact ⟨rfl, rfl⟩
end Go.Proofs.YtmecfeocmlbjfaaDoor.X
