/- Part of a proof: what functions of the program do. -/
import Derived.Test.YtmecfeocmlbjfaaDoorXf
namespace Go.Proofs.YtmecfeocmlbjfaaDoor.X
open Go Go.AM Go.Proofs
attribute [local go_sem ↓] w_skip w_lbl w_ops w_draw w_pre w_post w_alt w_seq w_cond w_block w_join w_loop w_exit w_ret w_scope w_rfunc l_nil l_cons th_n th_e th_r bk_n bk_r bk_e t_nil t_it t_call i_nil i_one i_grp s_nil s_cons c_call e_mv e_nil e_frz o_mov o_bin o_eq o_un o_conv o_len o_slen o_idx o_aix o_fad o_load o_store o_boxp o_boxo o_boxm o_alloc o_allocm o_alloca o_nilarr o_build o_bslp o_bslo o_slc o_sslc o_slc3 o_sidx o_mkfn o_mkmv o_vidx o_ext o_pick o_callf o_callb o_appd o_clear o_mxn o_field o_nilc o_make o_buildm o_boxg o_mkif o_tass o_eqs o_callo o_callx k_int k_str k_bool k_grb k_grt k_some k_none k_arr k_lens k_lenf k_lenh k_idxs k_idxf k_idxh k_ld k_loadp k_loadr k_loade k_storer k_storee k_oin k_ois k_slcs k_slcf k_slch k_slc3s k_slc3f k_slc3h k_app2 k_apps k_appf k_apph k_cals k_cald k_cali k_cnb k_cna k_esn k_esc k_efn k_efc k_esh b_add b_sub b_mul b_quo b_rem b_and b_or b_xor b_andNot b_eql b_neq b_lss b_leq b_gtr b_geq b_shl b_shr b_seq b_sne b_slt b_sad q_bool q_str q_nil q_nilf u_not u_neg u_xor f_ret f_nor v_r v_c v_g v_reg v_ob v_set v_put v_so v_sn v_pn v_pc g_nil d_nil p_nil m_mv m_fr z_nil z_cons z_an z_ac g_cons d_cons p_cons y_mov y_bin y_eq y_un y_conv y_len y_slen y_idx y_aix y_fad y_load y_store y_boxp y_boxo y_boxm y_alloc y_alloca y_allocm y_nilarr y_build y_bslp y_bslo y_slc y_sslc y_slc3 y_sidx y_mkfn y_ext y_pick y_callf y_callb y_appd y_clear y_mxn y_field y_nilc y_make y_buildm y_boxg y_mkif y_tass y_eqs y_callo y_mkmv y_callx y_vidx nb_if
attribute [local go_sem] nbd VL_mk VL2_mk If_t If_f If_not If_and If_or If_dt If_df If_et If_ef If_ne Ck_t Ck_h Opt_s ld_a ld_c lm_a lm_c renL ren keepR renA idxM invL getObs mapOb renOb allNone putAll fzR fzO fz fzL fzOb frzOk upFrom mapR resOne resA cellsOf oneA oneAL isP isPL okSt kRows kParts fillA setAt bor bor0 bor1 bor2 borC borI key0 key1 key2 keysA fillM cellsM cellM unif ptrA ifOk kPartsM getObsM allNoneM zipU scal0 scalar eqC evNil evNilF memK keyX hideM xbor scal1 scalX scalOb bndA mkMag showM lendV hideV hideR hideOb hideL hideO showL backO noneO mapA List.map_cons List.map_nil List.cons_append List.nil_append List.append_nil List.drop_zero List.drop_succ_cons List.drop_nil List.take_succ_cons List.take_zero List.take_nil List.length_cons List.length_nil List.length_map List.getElem?_map Option.map_some Option.map_none Int.toNat_natCast Int.toNat_zero Int.toNat_one Int.natCast_nonneg List.flatMap_cons List.flatMap_nil List.all_cons List.all_nil List.any_cons List.any_nil Bool.or_false Bool.false_or Bool.or_true Bool.true_or Bool.and_true Bool.true_and Bool.and_false Bool.false_and Bool.not_true Bool.not_false beq_self_eq_true nb_self all_nil List.forall_mem_cons tk_map tk_app bs_self bs_dec bq_t bq_f Bool.not_not decide_true decide_false Bool.not_not and_self and_true true_and eq_self List.reverse_cons List.reverse_nil List.getElem?_cons_zero List.getElem?_cons_succ cond_true cond_false List.set_cons_zero List.set_cons_succ Nat.zero_add Nat.add_zero if_true if_false ite_true ite_false implies_true wrap64 wrap8
open Go.Bits
set_option linter.unusedVariables false
set_option linter.unusedSimpArgs false
set_option maxRecDepth 10000
set_option maxHeartbeats 8000000
theorem scalZ (l : List Int) : ((l.map encZ).all fun c => c.all scal1) = true := by
  rw [List.all_eq_true]
  intro x hx
  obtain ⟨w, _, rfl⟩ := List.mem_map.1 hx
  rfl
def doneS (n : Nat) (l : List Deed) : List Bool := l.foldl deedS (noneB n)
theorem foldl_deedS_len : ∀ (l : List Deed) (bs : List Bool), (l.foldl deedS bs).length = bs.length
  | [], bs => rfl
  | d :: l, bs => by rw [List.foldl_cons, foldl_deedS_len l, deedS_len]
theorem doneS_len (n : Nat) (l : List Deed) : (doneS n l).length = n := by unfold doneS; rw [foldl_deedS_len, noneB_len]
theorem doneS_succ {n : Nat} {l : List Deed} {s : Nat} {x : Deed} (h : l[s]? = some x) : deedS (doneS n (l.take s)) x = doneS n (l.take (s + 1)) := by
  unfold doneS
  rw [List.take_add_one, h, Option.toList_some, List.foldl_append]
  rfl
theorem C4 (n : Int) (l : List Deed) (hk : ∀ d ∈ l, 0 ≤ d.k) : Ctr Tryd.prog 4 [.int .i64 n, .sl (l.map encD)] [] (ret [.bool true]) := by
  apply ctr_b A4_ok rfl (Nat.le_of_ble_eq_true rfl)
  unfold A4
  simp only [initL, Nat.reduceAdd]
  simp (config := {maxSteps := 2000000, implicitDefEqProofs := false}) (disch := omega) only [↓reduceIte, go_sem, Int.reduceToNat, Nat.reduceAdd, Nat.reduceLeDiff, Nat.reduceEqDiff, Nat.reduceSub, Nat.reduceMul, reduceCtorEq]
  refine callL (C10 n l) ?_
  simp (config := {maxSteps := 2000000, implicitDefEqProofs := false}) (disch := omega) only [↓reduceIte, go_sem, Int.reduceToNat, Nat.reduceAdd, Nat.reduceLeDiff, Nat.reduceEqDiff, Nat.reduceSub, Nat.reduceMul, reduceCtorEq]
  cases hf : few n l with
  | false =>
    simp (config := {maxSteps := 2000000, implicitDefEqProofs := false}) (disch := omega) only [↓reduceIte, go_sem, Int.reduceToNat, Nat.reduceAdd, Nat.reduceLeDiff, Nat.reduceEqDiff, Nat.reduceSub, Nat.reduceMul, reduceCtorEq]
    refine callL C5 ?_
    simp (config := {maxSteps := 2000000, implicitDefEqProofs := false}) (disch := omega) only [↓reduceIte, go_sem, Int.reduceToNat, Nat.reduceAdd, Nat.reduceLeDiff, Nat.reduceEqDiff, Nat.reduceSub, Nat.reduceMul, reduceCtorEq]
    exact ⟨rfl, rfl⟩
  | true =>
    unfold few at hf
    simp only [Bool.and_eq_true, decide_eq_true_eq] at hf
    obtain ⟨⟨h1, h2⟩, h3⟩ := hf
    simp (config := {maxSteps := 2000000, implicitDefEqProofs := false}) (disch := omega) only [↓reduceIte, go_sem, Int.reduceToNat, Nat.reduceAdd, Nat.reduceLeDiff, Nat.reduceEqDiff, Nat.reduceSub, Nat.reduceMul, reduceCtorEq]
    refine callD (New' n (by omega)) ?_
    simp (config := {maxSteps := 2000000, implicitDefEqProofs := false}) (disch := omega) only [↓reduceIte, go_sem, Int.reduceToNat, Nat.reduceAdd, Nat.reduceLeDiff, Nat.reduceEqDiff, Nat.reduceSub, Nat.reduceMul, reduceCtorEq]
    refine callD (C12 n (by omega)) ?_
    have tk0 : ((noneB n.toNat).map encB).take n.toNat = (noneB n.toNat).map encB := List.take_of_length_le (by rw [List.length_map, noneB_len]; omega)
    simp (config := {maxSteps := 2000000, implicitDefEqProofs := false}) (disch := omega) only [↓reduceIte, go_sem, Int.reduceToNat, Nat.reduceAdd, Nat.reduceLeDiff, Nat.reduceEqDiff, Nat.reduceSub, Nat.reduceMul, reduceCtorEq, tk0]
    refine loopL (σ := Nat) (fun s => ⟨[(1, .sl (l.map encD)), (5, .ref 60 0), (6, .ref 6 0), (7, .int .i64 (s : Nat))],
        [(6, .box [.sl ((doneS n.toNat (l.take s)).map encB)]), (60, .box [.int .i64 (n.toNat : Int), .hs 61 0 0 (nw n.toNat)]), (61, .arr 0 1 (encWs (doneS n.toNat (l.take s))))]⟩) (fun s => s ≤ l.length) (fun s => l.length - s) 0 (by simp (config := {maxSteps := 2000000, implicitDefEqProofs := false}) (disch := omega) only [↓reduceIte, go_sem, Int.reduceToNat, Nat.reduceAdd, Nat.reduceLeDiff, Nat.reduceEqDiff, Nat.reduceSub, Nat.reduceMul, reduceCtorEq]; rfl) (Nat.zero_le _) ?_
    intro s hs
    simp (config := {maxSteps := 2000000, implicitDefEqProofs := false}) (disch := omega) only [↓reduceIte, go_sem, Int.reduceToNat, Nat.reduceAdd, Nat.reduceLeDiff, Nat.reduceEqDiff, Nat.reduceSub, Nat.reduceMul, reduceCtorEq]
    refine ifD (fun c => ?_) (fun c => ?_)
    · have hlt : s < l.length := by omega
      have hx := List.getElem?_eq_getElem hlt
      have g1 := encD_get hlt
      have g4 : IntKind.i64.wrap ((s : Int) + 1) = ((s + 1 : Nat) : Int) := by rw [← wrapI (m := s + 1) (by omega)]; congr 1
      have hdk := hk _ (List.getElem_mem hlt)
      have hdf := List.all_eq_true.1 h3 _ (List.getElem_mem hlt)
      generalize l[s] = d at *
      have g5 := doneS_succ (n := n.toNat) hx
      have hl1 := doneS_len n.toNat (l.take s)
      have hl2 := doneS_len n.toNat (l.take (s + 1))
      have hD := C13 hl1 (by omega) d hdk hdf
      rw [g5] at hD
      obtain ⟨T, hT⟩ : ∃ T, T = doneS n.toNat (l.take (s + 1)) := ⟨_, rfl⟩
      rw [← hT] at hD hl2
      generalize doneS n.toNat (l.take s) = B at *
      unfold refS encD at hD
      have hL := C14 T (by omega)
      have hH := C17 T d.n (by omega)
      unfold refS at hL hH
      have tkT : (encWs T).take (nw n.toNat) = encWs T := take_of hl2
      have hTl : (onesI T).length = (ones T).length := onesI_len T
      have hle := ones_le T
      have tkO : ((onesI T).map encZ).take (ones T).length = (onesI T).map encZ := List.take_of_length_le (by rw [List.length_map, hTl]; omega)
      simp (config := {maxSteps := 2000000, implicitDefEqProofs := false}) (disch := omega) only [↓reduceIte, go_sem, Int.reduceToNat, Nat.reduceAdd, Nat.reduceLeDiff, Nat.reduceEqDiff, Nat.reduceSub, Nat.reduceMul, reduceCtorEq, g1, encD]
      refine callD hD ?_
      simp (config := {maxSteps := 2000000, implicitDefEqProofs := false}) (disch := omega) only [↓reduceIte, go_sem, Int.reduceToNat, Nat.reduceAdd, Nat.reduceLeDiff, Nat.reduceEqDiff, Nat.reduceSub, Nat.reduceMul, reduceCtorEq]
      refine accL (by kernel_rfl) ?_
      simp (config := {maxSteps := 2000000, implicitDefEqProofs := false}) (disch := omega) only [↓reduceIte, go_sem, Int.reduceToNat, Nat.reduceAdd, Nat.reduceLeDiff, Nat.reduceEqDiff, Nat.reduceSub, Nat.reduceMul, reduceCtorEq]
      refine callL hL ?_
      simp (config := {maxSteps := 2000000, implicitDefEqProofs := false}) (disch := omega) only [↓reduceIte, go_sem, Int.reduceToNat, Nat.reduceAdd, Nat.reduceLeDiff, Nat.reduceEqDiff, Nat.reduceSub, Nat.reduceMul, reduceCtorEq, tkT]
      refine callD (C8 hl2 (by omega)) ?_
      simp (config := {maxSteps := 2000000, implicitDefEqProofs := false}) (disch := omega) only [↓reduceIte, go_sem, Int.reduceToNat, Nat.reduceAdd, Nat.reduceLeDiff, Nat.reduceEqDiff, Nat.reduceSub, Nat.reduceMul, reduceCtorEq]
      refine ckL (scalZ _) ?_
      simp (config := {maxSteps := 2000000, implicitDefEqProofs := false}) (disch := omega) only [↓reduceIte, go_sem, Int.reduceToNat, Nat.reduceAdd, Nat.reduceLeDiff, Nat.reduceEqDiff, Nat.reduceSub, Nat.reduceMul, reduceCtorEq, tkO]
      refine callL (C9 _ _ (by omega) (by omega)) ?_
      simp (config := {maxSteps := 2000000, implicitDefEqProofs := false}) (disch := omega) only [↓reduceIte, go_sem, Int.reduceToNat, Nat.reduceAdd, Nat.reduceLeDiff, Nat.reduceEqDiff, Nat.reduceSub, Nat.reduceMul, reduceCtorEq, tkT]
      refine callL (C15 hl2 (by omega)) ?_
      simp (config := {maxSteps := 2000000, implicitDefEqProofs := false}) (disch := omega) only [↓reduceIte, go_sem, Int.reduceToNat, Nat.reduceAdd, Nat.reduceLeDiff, Nat.reduceEqDiff, Nat.reduceSub, Nat.reduceMul, reduceCtorEq, g1, encD, tkT, hTl]
      refine callL (Has' hl2 d.n (by omega)) ?_
      simp (config := {maxSteps := 2000000, implicitDefEqProofs := false}) (disch := omega) only [↓reduceIte, go_sem, Int.reduceToNat, Nat.reduceAdd, Nat.reduceLeDiff, Nat.reduceEqDiff, Nat.reduceSub, Nat.reduceMul, reduceCtorEq, g1, encD]
      refine callL hH ?_
      simp (config := {maxSteps := 2000000, implicitDefEqProofs := false}) (disch := omega) only [↓reduceIte, go_sem, Int.reduceToNat, Nat.reduceAdd, Nat.reduceLeDiff, Nat.reduceEqDiff, Nat.reduceSub, Nat.reduceMul, reduceCtorEq, tkT]
      refine callL (Bound' hl2) ?_
      simp (config := {maxSteps := 2000000, implicitDefEqProofs := false}) (disch := omega) only [↓reduceIte, go_sem, Int.reduceToNat, Nat.reduceAdd, Nat.reduceLeDiff, Nat.reduceEqDiff, Nat.reduceSub, Nat.reduceMul, reduceCtorEq, hl2]
      refine accL (by kernel_rfl) ?_
      simp (config := {maxSteps := 2000000, implicitDefEqProofs := false}) (disch := omega) only [↓reduceIte, go_sem, Int.reduceToNat, Nat.reduceAdd, Nat.reduceLeDiff, Nat.reduceEqDiff, Nat.reduceSub, Nat.reduceMul, reduceCtorEq, g4, hl2]
      exact ⟨s + 1, by rw [← hT], by omega, by omega⟩
    · have hs : s = l.length := by omega
      subst hs
      simp (config := {maxSteps := 2000000, implicitDefEqProofs := false}) (disch := omega) only [↓reduceIte, go_sem, Int.reduceToNat, Nat.reduceAdd, Nat.reduceLeDiff, Nat.reduceEqDiff, Nat.reduceSub, Nat.reduceMul, reduceCtorEq]
      refine callL C5 ?_
      simp (config := {maxSteps := 2000000, implicitDefEqProofs := false}) (disch := omega) only [↓reduceIte, go_sem, Int.reduceToNat, Nat.reduceAdd, Nat.reduceLeDiff, Nat.reduceEqDiff, Nat.reduceSub, Nat.reduceMul, reduceCtorEq]
      exact ⟨rfl, rfl⟩
theorem ones_lt {bs : List Bool} {i j : Nat} (h : i < j) (hj : j < (onesI bs).length) : (onesI bs)[i]! < (onesI bs)[j]! := by
  have hp : (ones bs).Pairwise (· < ·) := by
    unfold ones
    exact List.Pairwise.filter _ List.pairwise_lt_range
  have hi : i < (onesI bs).length := by omega
  have := List.pairwise_iff_getElem.1 hp i j (by simpa [onesI] using hi) (by simpa [onesI] using hj) h
  rw [getElem!_pos _ i hi, getElem!_pos _ j hj]
  simp only [onesI, List.getElem_map]
  omega
theorem C3 (n : Int) (l : List Int) (most : Int) : Ctr Tryd.prog 3 [.int .i64 n, .sl (l.map encZ), .int .i64 most] [] (ret [.bool true]) := by
  apply ctr_bK A3_ok rfl (Nat.le_of_ble_eq_true rfl)
  unfold A3
  simp only [initL, Nat.reduceAdd]
  simp (config := {maxSteps := 2000000, implicitDefEqProofs := false}) (disch := omega) only [↓reduceIte, go_sem, Int.reduceToNat, Nat.reduceAdd, Nat.reduceLeDiff, Nat.reduceEqDiff, Nat.reduceSub, Nat.reduceMul, reduceCtorEq]
  by_cases h1 : n > 300
  · simp (config := {maxSteps := 2000000, implicitDefEqProofs := false}) (disch := omega) only [↓reduceIte, go_sem, Int.reduceToNat, Nat.reduceAdd, Nat.reduceLeDiff, Nat.reduceEqDiff, Nat.reduceSub, Nat.reduceMul, reduceCtorEq]
    refine callL C5 ?_
    simp (config := {maxSteps := 2000000, implicitDefEqProofs := false}) (disch := omega) only [↓reduceIte, go_sem, Int.reduceToNat, Nat.reduceAdd, Nat.reduceLeDiff, Nat.reduceEqDiff, Nat.reduceSub, Nat.reduceMul, reduceCtorEq]
    exact ⟨rfl, rfl⟩
  · by_cases h2 : l.length > 40
    · simp (config := {maxSteps := 2000000, implicitDefEqProofs := false}) (disch := omega) only [↓reduceIte, go_sem, Int.reduceToNat, Nat.reduceAdd, Nat.reduceLeDiff, Nat.reduceEqDiff, Nat.reduceSub, Nat.reduceMul, reduceCtorEq]
      refine callL C5 ?_
      simp (config := {maxSteps := 2000000, implicitDefEqProofs := false}) (disch := omega) only [↓reduceIte, go_sem, Int.reduceToNat, Nat.reduceAdd, Nat.reduceLeDiff, Nat.reduceEqDiff, Nat.reduceSub, Nat.reduceMul, reduceCtorEq]
      exact ⟨rfl, rfl⟩
    · simp (config := {maxSteps := 2000000, implicitDefEqProofs := false}) (disch := omega) only [↓reduceIte, go_sem, Int.reduceToNat, Nat.reduceAdd, Nat.reduceLeDiff, Nat.reduceEqDiff, Nat.reduceSub, Nat.reduceMul, reduceCtorEq]
      refine callD (C6 n l (by omega) (by omega)) ?_
      have hB := ofS_len n.toNat l
      generalize ofS n.toNat l = B at *
      have tkB : (encWs B).take (nw n.toNat) = encWs B := take_of hB
      have hBl : (onesI B).length = (ones B).length := onesI_len B
      have hle := ones_le B
      have tkO : ((onesI B).map encZ).take (ones B).length = (onesI B).map encZ := List.take_of_length_le (by rw [List.length_map, hBl]; omega)
      simp (config := {maxSteps := 2000000, implicitDefEqProofs := false}) (disch := omega) only [↓reduceIte, go_sem, Int.reduceToNat, Nat.reduceAdd, Nat.reduceLeDiff, Nat.reduceEqDiff, Nat.reduceSub, Nat.reduceMul, reduceCtorEq, tkB]
      refine callL (C7 (n := n.toNat) _) ?_
      simp (config := {maxSteps := 2000000, implicitDefEqProofs := false}) (disch := omega) only [↓reduceIte, go_sem, Int.reduceToNat, Nat.reduceAdd, Nat.reduceLeDiff, Nat.reduceEqDiff, Nat.reduceSub, Nat.reduceMul, reduceCtorEq]
      have inc : ∀ (c : Nat), c ≤ (onesI B).length → ∀ i : Nat, 1 ≤ i → i < c → ((onesI B).take c)[i - 1]! < ((onesI B).take c)[i]! := fun c hc i h1 h2 => by
        have hl : ((onesI B).take c).length = c := by rw [List.length_take]; omega
        rw [getElem!_pos _ (i - 1) (by omega), getElem!_pos _ i (by omega), List.getElem_take, List.getElem_take]
        have := ones_lt (bs := B) (i := i - 1) (j := i) (by omega) (by omega)
        rwa [getElem!_pos _ (i - 1) (by omega), getElem!_pos _ i (by omega)] at this
      refine rangeM (σ := Nat) (xs := onesZ B) rfl rfl (I24 hB (by omega)) (fun x hx => by rw [onesZ_eq] at hx; obtain ⟨s, _, rfl⟩ := List.mem_map.1 hx; rfl)
        (fun s => [(8, .box [.hs 1008 s 0 s]), (1008, .arr s 1 (((onesI B).take s).map encZ))]) (fun k s => s = k ∧ k ≤ (onesI B).length ∧ (k = 0 ∨ (k : Int) < most)) 0 (by simp (config := {maxSteps := 2000000, implicitDefEqProofs := false}) (disch := omega) only [↓reduceIte, go_sem, Int.reduceToNat, Nat.reduceAdd, Nat.reduceLeDiff, Nat.reduceEqDiff, Nat.reduceSub, Nat.reduceMul, reduceCtorEq]) ⟨rfl, Nat.zero_le _, .inl rfl⟩ (fun s => rfl) ?_ ?_
      · rintro k x s hx ⟨rfl, hk, hm⟩
        rw [onesZ_eq] at hx
        obtain ⟨z, hz, rfl⟩ : ∃ z, (onesI B)[s]? = some z ∧ encZ z = x := by simpa using hx
        have hlt : s < (onesI B).length := (List.getElem?_eq_some_iff.1 hz).1
        have h3 : (onesI B).take (s + 1) = (onesI B).take s ++ [z] := by rw [List.take_add_one, hz]; rfl
        have h4 : ((onesI B).take s).length = s := by rw [List.length_take]; omega
        have h5 : ((onesI B).take s).map encZ ++ [[.int .i64 z]] = ((onesI B).take (s + 1)).map encZ := by rw [h3, List.map_append]; rfl
        simp (config := {maxSteps := 2000000, implicitDefEqProofs := false}) (disch := omega) only [↓reduceIte, go_sem, Int.reduceToNat, Nat.reduceAdd, Nat.reduceLeDiff, Nat.reduceEqDiff, Nat.reduceSub, Nat.reduceMul, reduceCtorEq, encZ, h4, h5]
        refine ⟨rfl, ifD (fun hc => ?_) (fun hc => ?_)⟩
        · simp (config := {maxSteps := 2000000, implicitDefEqProofs := false}) (disch := omega) only [↓reduceIte, go_sem, Int.reduceToNat, Nat.reduceAdd, Nat.reduceLeDiff, Nat.reduceEqDiff, Nat.reduceSub, Nat.reduceMul, reduceCtorEq, encZ, h4, h5]
          refine ⟨rfl, ?_⟩
          have hc1 : s + 1 ≤ (onesI B).length := hlt
          have hK : (onesI B).take (max most 1).toNat = (onesI B).take (s + 1) := by congr 1; omega
          generalize s + 1 = c at *
          refine callD (C8 hB (by omega)) ?_
          have hmx : (if (1 : Int) > most then (1 : Int) else most) = max most 1 := by split <;> omega
          have hKm : ((onesI B).map encZ).take (max most 1).toNat = ((onesI B).take c).map encZ := by rw [← List.map_take, hK]
          simp (config := {maxSteps := 2000000, implicitDefEqProofs := false}) (disch := omega) only [↓reduceIte, go_sem, Int.reduceToNat, Nat.reduceAdd, Nat.reduceLeDiff, Nat.reduceEqDiff, Nat.reduceSub, Nat.reduceMul, reduceCtorEq, tkO, hmx]
          refine ifD (fun hq => ?_) (fun hq => ?_)
          · obtain ⟨G, hG⟩ : ∃ G, G = (onesI B).take c := ⟨_, rfl⟩
            have hGl : G.length = c := by rw [hG, List.length_take]; omega
            have hGi := inc c hc1
            rw [← hG] at hGi
            simp (config := {maxSteps := 2000000, implicitDefEqProofs := false}) (disch := omega) only [↓reduceIte, go_sem, Int.reduceToNat, Nat.reduceAdd, Nat.reduceLeDiff, Nat.reduceEqDiff, Nat.reduceSub, Nat.reduceMul, reduceCtorEq, encZ, h4, h5, hKm, ← hG]
            refine ckL (by first | (refine ⟨by omega, by omega, by omega, fun x hx => ?_⟩; obtain ⟨y, _, rfl⟩ := List.mem_map.1 hx; rfl) | (refine ⟨by omega, by omega, by simp only [List.length_map]; omega, fun x hx => ?_⟩; obtain ⟨y, _, rfl⟩ := List.mem_map.1 hx; rfl)) ?_
            simp (config := {maxSteps := 2000000, implicitDefEqProofs := false}) (disch := omega) only [↓reduceIte, go_sem, Int.reduceToNat, Nat.reduceAdd, Nat.reduceLeDiff, Nat.reduceEqDiff, Nat.reduceSub, Nat.reduceMul, reduceCtorEq, encZ, h4, h5, hKm, ← hG]
            refine loopL (σ := Nat) (fun i => ⟨[(8, .ref 8 0), (11, .sl (G.map encZ)), (13, .int .i64 (i : Nat))], [(8, .box [.hs 1008 c 0 c]), (1008, .arr c 1 (G.map encZ))]⟩) (fun i => 1 ≤ i) (fun i => c - i) 1 (by first | rfl | (simp (config := {maxSteps := 2000000, implicitDefEqProofs := false}) (disch := omega) only [↓reduceIte, go_sem, Int.reduceToNat, Nat.reduceAdd, Nat.reduceLeDiff, Nat.reduceEqDiff, Nat.reduceSub, Nat.reduceMul, reduceCtorEq]; rfl)) (Nat.le_refl _) ?_
            intro i hi
            simp (config := {maxSteps := 2000000, implicitDefEqProofs := false}) (disch := omega) only [↓reduceIte, go_sem, Int.reduceToNat, Nat.reduceAdd, Nat.reduceLeDiff, Nat.reduceEqDiff, Nat.reduceSub, Nat.reduceMul, reduceCtorEq]
            refine ifD (fun hic => ?_) (fun hic => ?_)
            · have hic2 : i < c := by omega
              have k1 := encZ_get' (l := G) (s := i - 1) (by omega)
              have k2 := encZ_get' (l := G) (s := i) (by omega)
              have k3 := hGi i hi hic2
              have k4 : IntKind.i64.wrap ((i : Int) - 1) = ((i - 1 : Nat) : Int) := by rw [← wrapI (m := i - 1) (by omega)]; congr 1; omega
              have k5 : IntKind.i64.wrap ((i : Int) + 1) = ((i + 1 : Nat) : Int) := by rw [← wrapI (m := i + 1) (by omega)]; congr 1
              simp (config := {maxSteps := 2000000, implicitDefEqProofs := false}) (disch := omega) only [↓reduceIte, go_sem, Int.reduceToNat, Nat.reduceAdd, Nat.reduceLeDiff, Nat.reduceEqDiff, Nat.reduceSub, Nat.reduceMul, reduceCtorEq, k1, k2, k4]
              refine accL (by kernel_rfl) ?_
              simp (config := {maxSteps := 2000000, implicitDefEqProofs := false}) (disch := omega) only [↓reduceIte, go_sem, Int.reduceToNat, Nat.reduceAdd, Nat.reduceLeDiff, Nat.reduceEqDiff, Nat.reduceSub, Nat.reduceMul, reduceCtorEq, k5]
              exact ⟨i + 1, rfl, by omega, by omega⟩
            · have tkG : (G.map encZ).take c = G.map encZ := List.take_of_length_le (by rw [List.length_map]; omega)
              simp (config := {maxSteps := 2000000, implicitDefEqProofs := false}) (disch := omega) only [↓reduceIte, go_sem, Int.reduceToNat, Nat.reduceAdd, Nat.reduceLeDiff, Nat.reduceEqDiff, Nat.reduceSub, Nat.reduceMul, reduceCtorEq, tkG]
              refine callL (C9 _ _ (by omega) (by omega)) ?_
              simp (config := {maxSteps := 2000000, implicitDefEqProofs := false}) (disch := omega) only [↓reduceIte, go_sem, Int.reduceToNat, Nat.reduceAdd, Nat.reduceLeDiff, Nat.reduceEqDiff, Nat.reduceSub, Nat.reduceMul, reduceCtorEq]
              refine callL C5 ?_
              simp (config := {maxSteps := 2000000, implicitDefEqProofs := false}) (disch := omega) only [↓reduceIte, go_sem, Int.reduceToNat, Nat.reduceAdd, Nat.reduceLeDiff, Nat.reduceEqDiff, Nat.reduceSub, Nat.reduceMul, reduceCtorEq]
              exact ⟨rfl, rfl⟩
          · have hKm2 : (onesI B).take c = onesI B := by rw [← hK, List.take_of_length_le (by omega)]
            have hGl : (onesI B).length = c := by have := congrArg List.length hKm2; rw [List.length_take] at this; omega
            have hGi := inc c hc1
            rw [hKm2] at hGi
            simp (config := {maxSteps := 2000000, implicitDefEqProofs := false}) (disch := omega) only [↓reduceIte, go_sem, Int.reduceToNat, Nat.reduceAdd, Nat.reduceLeDiff, Nat.reduceEqDiff, Nat.reduceSub, Nat.reduceMul, reduceCtorEq, encZ, h4, h5, hKm2]
            refine loopL (σ := Nat) (fun i => ⟨[(8, .ref 8 0), (11, .sl ((onesI B).map encZ)), (13, .int .i64 (i : Nat))], [(8, .box [.hs 1008 c 0 c]), (1008, .arr c 1 ((onesI B).map encZ))]⟩) (fun i => 1 ≤ i) (fun i => c - i) 1 (by first | rfl | (simp (config := {maxSteps := 2000000, implicitDefEqProofs := false}) (disch := omega) only [↓reduceIte, go_sem, Int.reduceToNat, Nat.reduceAdd, Nat.reduceLeDiff, Nat.reduceEqDiff, Nat.reduceSub, Nat.reduceMul, reduceCtorEq]; rfl)) (Nat.le_refl _) ?_
            intro i hi
            simp (config := {maxSteps := 2000000, implicitDefEqProofs := false}) (disch := omega) only [↓reduceIte, go_sem, Int.reduceToNat, Nat.reduceAdd, Nat.reduceLeDiff, Nat.reduceEqDiff, Nat.reduceSub, Nat.reduceMul, reduceCtorEq]
            refine ifD (fun hic => ?_) (fun hic => ?_)
            · have hic2 : i < c := by omega
              have k1 := encZ_get' (l := (onesI B)) (s := i - 1) (by omega)
              have k2 := encZ_get' (l := (onesI B)) (s := i) (by omega)
              have k3 := hGi i hi hic2
              have k4 : IntKind.i64.wrap ((i : Int) - 1) = ((i - 1 : Nat) : Int) := by rw [← wrapI (m := i - 1) (by omega)]; congr 1; omega
              have k5 : IntKind.i64.wrap ((i : Int) + 1) = ((i + 1 : Nat) : Int) := by rw [← wrapI (m := i + 1) (by omega)]; congr 1
              simp (config := {maxSteps := 2000000, implicitDefEqProofs := false}) (disch := omega) only [↓reduceIte, go_sem, Int.reduceToNat, Nat.reduceAdd, Nat.reduceLeDiff, Nat.reduceEqDiff, Nat.reduceSub, Nat.reduceMul, reduceCtorEq, k1, k2, k4]
              refine accL (by kernel_rfl) ?_
              simp (config := {maxSteps := 2000000, implicitDefEqProofs := false}) (disch := omega) only [↓reduceIte, go_sem, Int.reduceToNat, Nat.reduceAdd, Nat.reduceLeDiff, Nat.reduceEqDiff, Nat.reduceSub, Nat.reduceMul, reduceCtorEq, k5]
              exact ⟨i + 1, rfl, by omega, by omega⟩
            · have tkG : ((onesI B).map encZ).take c = (onesI B).map encZ := List.take_of_length_le (by rw [List.length_map]; omega)
              simp (config := {maxSteps := 2000000, implicitDefEqProofs := false}) (disch := omega) only [↓reduceIte, go_sem, Int.reduceToNat, Nat.reduceAdd, Nat.reduceLeDiff, Nat.reduceEqDiff, Nat.reduceSub, Nat.reduceMul, reduceCtorEq, tkG]
              refine callL (C9 _ _ (by omega) (by omega)) ?_
              simp (config := {maxSteps := 2000000, implicitDefEqProofs := false}) (disch := omega) only [↓reduceIte, go_sem, Int.reduceToNat, Nat.reduceAdd, Nat.reduceLeDiff, Nat.reduceEqDiff, Nat.reduceSub, Nat.reduceMul, reduceCtorEq]
              refine callL C5 ?_
              simp (config := {maxSteps := 2000000, implicitDefEqProofs := false}) (disch := omega) only [↓reduceIte, go_sem, Int.reduceToNat, Nat.reduceAdd, Nat.reduceLeDiff, Nat.reduceEqDiff, Nat.reduceSub, Nat.reduceMul, reduceCtorEq]
              exact ⟨rfl, rfl⟩
        · simp (config := {maxSteps := 2000000, implicitDefEqProofs := false}) (disch := omega) only [↓reduceIte, go_sem, Int.reduceToNat, Nat.reduceAdd, Nat.reduceLeDiff, Nat.reduceEqDiff, Nat.reduceSub, Nat.reduceMul, reduceCtorEq, encZ, h4, h5]
          exact ⟨s + 1, rfl, rfl, by omega, by omega⟩
      · rintro s ⟨rfl, hk, hm⟩
        have hl0 : (onesZ B).length = (onesI B).length := by rw [onesZ_eq, List.length_map]
        rw [hl0] at hm ⊢
        simp (config := {maxSteps := 2000000, implicitDefEqProofs := false}) (disch := omega) only [↓reduceIte, go_sem, Int.reduceToNat, Nat.reduceAdd, Nat.reduceLeDiff, Nat.reduceEqDiff, Nat.reduceSub, Nat.reduceMul, reduceCtorEq]
        have hK : (onesI B).take (max most 1).toNat = (onesI B).take (onesI B).length := by
          rw [List.take_of_length_le (Nat.le_refl _), List.take_of_length_le (by omega)]
        obtain ⟨c, hcc⟩ : ∃ c, c = (onesI B).length := ⟨_, rfl⟩
        rw [← hcc] at hK ⊢
        have hc1 : c ≤ (onesI B).length := by omega
        refine callD (C8 hB (by omega)) ?_
        have hmx : (if (1 : Int) > most then (1 : Int) else most) = max most 1 := by split <;> omega
        have hG0 : (onesI B).take c = onesI B := List.take_of_length_le (by omega)
        have hGi := inc c hc1
        rw [hG0] at hGi
        simp (config := {maxSteps := 2000000, implicitDefEqProofs := false}) (disch := omega) only [↓reduceIte, go_sem, Int.reduceToNat, Nat.reduceAdd, Nat.reduceLeDiff, Nat.reduceEqDiff, Nat.reduceSub, Nat.reduceMul, reduceCtorEq, tkO, hmx, hG0]
        refine loopL (σ := Nat) (fun i => ⟨[(8, .ref 8 0), (11, .sl ((onesI B).map encZ)), (13, .int .i64 (i : Nat))], [(8, .box [.hs 1008 c 0 c]), (1008, .arr c 1 ((onesI B).map encZ))]⟩) (fun i => 1 ≤ i) (fun i => c - i) 1 (by first | rfl | (simp (config := {maxSteps := 2000000, implicitDefEqProofs := false}) (disch := omega) only [↓reduceIte, go_sem, Int.reduceToNat, Nat.reduceAdd, Nat.reduceLeDiff, Nat.reduceEqDiff, Nat.reduceSub, Nat.reduceMul, reduceCtorEq]; rfl)) (Nat.le_refl _) ?_
        intro i hi
        simp (config := {maxSteps := 2000000, implicitDefEqProofs := false}) (disch := omega) only [↓reduceIte, go_sem, Int.reduceToNat, Nat.reduceAdd, Nat.reduceLeDiff, Nat.reduceEqDiff, Nat.reduceSub, Nat.reduceMul, reduceCtorEq]
        refine ifD (fun hic => ?_) (fun hic => ?_)
        · have hic2 : i < c := by omega
          have k1 := encZ_get' (l := (onesI B)) (s := i - 1) (by omega)
          have k2 := encZ_get' (l := (onesI B)) (s := i) (by omega)
          have k3 := hGi i hi hic2
          have k4 : IntKind.i64.wrap ((i : Int) - 1) = ((i - 1 : Nat) : Int) := by rw [← wrapI (m := i - 1) (by omega)]; congr 1; omega
          have k5 : IntKind.i64.wrap ((i : Int) + 1) = ((i + 1 : Nat) : Int) := by rw [← wrapI (m := i + 1) (by omega)]; congr 1
          simp (config := {maxSteps := 2000000, implicitDefEqProofs := false}) (disch := omega) only [↓reduceIte, go_sem, Int.reduceToNat, Nat.reduceAdd, Nat.reduceLeDiff, Nat.reduceEqDiff, Nat.reduceSub, Nat.reduceMul, reduceCtorEq, k1, k2, k4]
          refine accL (by kernel_rfl) ?_
          simp (config := {maxSteps := 2000000, implicitDefEqProofs := false}) (disch := omega) only [↓reduceIte, go_sem, Int.reduceToNat, Nat.reduceAdd, Nat.reduceLeDiff, Nat.reduceEqDiff, Nat.reduceSub, Nat.reduceMul, reduceCtorEq, k5]
          exact ⟨i + 1, rfl, by omega, by omega⟩
        · have tkG : ((onesI B).map encZ).take c = (onesI B).map encZ := List.take_of_length_le (by rw [List.length_map]; omega)
          simp (config := {maxSteps := 2000000, implicitDefEqProofs := false}) (disch := omega) only [↓reduceIte, go_sem, Int.reduceToNat, Nat.reduceAdd, Nat.reduceLeDiff, Nat.reduceEqDiff, Nat.reduceSub, Nat.reduceMul, reduceCtorEq, tkG]
          refine callL (C9 _ _ (by omega) (by omega)) ?_
          simp (config := {maxSteps := 2000000, implicitDefEqProofs := false}) (disch := omega) only [↓reduceIte, go_sem, Int.reduceToNat, Nat.reduceAdd, Nat.reduceLeDiff, Nat.reduceEqDiff, Nat.reduceSub, Nat.reduceMul, reduceCtorEq]
          refine callL C5 ?_
          simp (config := {maxSteps := 2000000, implicitDefEqProofs := false}) (disch := omega) only [↓reduceIte, go_sem, Int.reduceToNat, Nat.reduceAdd, Nat.reduceLeDiff, Nat.reduceEqDiff, Nat.reduceSub, Nat.reduceMul, reduceCtorEq]
          exact ⟨rfl, rfl⟩
end Go.Proofs.YtmecfeocmlbjfaaDoor.X
