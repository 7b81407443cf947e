/- What Live answers out of its sets: list, is, In, Out, at, Present, Through. -/
import Derived.Test.YtgbmneoeggdaoaaDoorXf
import Derived.Test.YtgbmneoeggdaoaaDoorXd
namespace Go.Proofs.YtgbmneoeggdaoaaDoor.X
open Go Go.AM Go.Proofs
attribute [local go_sem ↓] w_skip w_lbl w_ops w_draw w_pre w_post w_alt w_seq w_cond w_block w_join w_loop w_exit w_ret w_scope w_rfunc l_nil l_cons th_n th_e th_r bk_n bk_r bk_e t_nil t_it t_call t_callg i_nil i_one i_grp s_nil s_cons c_call c_callg e_rar e_dynB e_mv e_nil e_dyn e_nilb e_frz o_mov o_bin o_eq o_un o_conv o_len o_slen o_idx o_aix o_fad o_load o_store o_boxp o_boxo o_boxm o_alloc o_allocm o_alloca o_nilarr o_build o_bslp o_bslo o_slc o_sslc o_slc3 o_sidx o_mkfn o_mkmv o_calle o_bslr o_ridx o_rload o_rapp o_vidx o_ext o_pick o_callf o_callb o_appd o_clear o_mxn o_field o_nilc o_make o_makeb o_buildm o_boxg o_mkif o_tass o_eqs o_callo o_callx k_int k_str k_bool k_grb k_grt k_some k_none k_rar k_arr k_lens k_lenf k_lenh k_lenb k_idxb k_idxs k_idxf k_idxh k_ld k_loadp k_loadr k_loade k_storer k_storee k_oin k_ois k_slcs k_slcf k_slch k_slc3s k_slc3f k_slc3h k_app2 k_apps k_appf k_apph k_cals k_cald k_cali k_cnb k_cna k_esn k_esc k_efn k_efc k_esh b_add b_sub b_mul b_quo b_rem b_and b_or b_xor b_andNot b_eql b_neq b_lss b_leq b_gtr b_geq b_shl b_shr b_seq b_sne b_slt b_sad q_bool q_str q_nil q_nilf u_not u_neg u_xor f_ret f_nor v_r v_c v_g v_reg v_ob v_set v_put v_so v_sn v_pn v_pc g_nil d_nil p_nil m_mv m_fr z_nil z_cons z_an z_ac g_cons d_cons p_cons y_mov y_bin y_eq y_un y_conv y_len y_slen y_idx y_aix y_fad y_load y_store y_boxp y_boxo y_boxm y_alloc y_alloca y_allocm y_nilarr y_build y_bslp y_bslo y_slc y_sslc y_slc3 y_sidx y_mkfn y_ext y_pick y_callf y_callb y_appd y_clear y_mxn y_field y_nilc y_make y_makeb y_buildm y_boxg y_mkif y_tass y_eqs y_callo y_mkmv y_callx y_vidx y_bslr y_ridx y_rload y_rapp y_calle nb_if
attribute [local go_sem] nbd VL_mk VL2_mk If_t If_f If_not If_and If_or If_dt If_df If_et If_ef If_ne Ck_t Ck_h Opt_s ld_a ld_c lm_a lm_c renL ren keepR renA idxM invL getObs mapOb renOb allNone putAll fzR fzO fz fzL fzOb fzB frzOk upFrom mapR resOne resA cellsOf oneA oneAL isP isPL okSt kRows kParts fillA setAt bor bor0 bor1 bor2 borC borI key0 key1 key2 keysA fillM cellsM cellM unif ptrA ifOk kPartsM getObsM allNoneM zipU scal0 scalar eqC evNil evNilF memK keyX hideM xbor scal1 scalX scalOb bndA mkMag showM lendV hideV hideR hideOb hideL hideO showL backO noneO mapA List.map_cons List.map_nil List.cons_append List.nil_append List.append_nil List.drop_zero List.drop_succ_cons List.drop_nil List.take_succ_cons List.take_zero List.take_nil List.length_cons List.length_nil List.length_map List.getElem?_map Option.map_some Option.map_none Int.toNat_natCast Int.toNat_zero Int.toNat_one Int.natCast_nonneg List.flatMap_cons List.flatMap_nil List.all_cons List.all_nil List.any_cons List.any_nil Bool.or_false Bool.false_or Bool.or_true Bool.true_or Bool.and_true Bool.true_and Bool.and_false Bool.false_and Bool.not_true Bool.not_false beq_self_eq_true nb_self all_nil List.forall_mem_cons tk_map tk_app bs_self bs_dec bq_t bq_f Bool.not_not decide_true decide_false Bool.not_not and_self and_true true_and eq_self List.reverse_cons List.reverse_nil List.getElem?_cons_zero List.getElem?_cons_succ cond_true cond_false List.set_cons_zero List.set_cons_succ Nat.zero_add Nat.add_zero if_true if_false ite_true ite_false implies_true wrap64 wrap8
open Go.Bits
set_option linter.unusedVariables false
set_option linter.unusedSimpArgs false
set_option maxRecDepth 10000
set_option maxHeartbeats 1000000
/-- A list's places as values. -/
def listL (u : List Int) (s : List Bool) : List Int := (ones s).map fun i => u.getD i 0
theorem listL_len {u : List Int} {s : List Bool} : (listL u s).length = (ones s).length := by simp [listL]
theorem listL_le {u : List Int} {s : List Bool} : (listL u s).length ≤ s.length := by rw [listL_len]; exact ones_le s
theorem ones_lt {s : List Bool} {i : Nat} (h : i ∈ ones s) : i < s.length := by
 unfold ones at h
 exact List.mem_range.1 (List.mem_filter.1 h).1
theorem C33 (f : Fnc) (u : List Int) (ins outs : List (List Bool)) (n : Nat) (s : List Bool) (hn : s.length = n) (hu : u.length = n) (hm : n < 1000000) :
  Ctr Tryd.prog 33 [lvP f u ins outs, .rp [.int .i64 (n : Int), .sl (encWs s)]] [] (retO [.hs 0 (listL u s).length 0 (listL u s).length] [.arr (listL u s).length 1 ((listL u s).map encN)]) := by
 have hi := I91 hn (by omega)
 rw [onesZ_eq] at hi
 have hol := onesI_len s
 have hle := ones_le s
 have hll := listL_len (u := u) (s := s)
 have hx : ∀ k x, (onesI s)[k]? = some x → ∃ j : Nat, x = (j : Int) ∧ j < u.length ∧ ∃ y, u[j]? = some y ∧ (listL u s).take (k + 1) = (listL u s).take k ++ [y] := by
  intro k x hk
  unfold onesI at hk
  rw [List.getElem?_map] at hk
  cases hj : (ones s)[k]? with
  | none => rw [hj] at hk; cases hk
  | some j =>
   rw [hj] at hk
   have hx := Option.some.inj hk
   have hlt := ones_lt (List.mem_of_getElem? hj)
   refine ⟨j, hx.symm, by omega, u.getD j 0, ?_, ?_⟩
   ·rw [List.getElem?_eq_getElem (by omega)]
    simp [List.getD_eq_getElem?_getD, show j < u.length by omega]
   ·rw [List.take_add_one]
    unfold listL
    rw [List.getElem?_map, hj]
    rfl
 generalize listL u s = R at hx hll ⊢
 apply ctr_bK A33_ok rfl (Nat.le_of_ble_eq_true rfl)
 unfold A33 lvP
 simp only [initL, Nat.reduceAdd]
 simp -implicitDefEqProofs (maxSteps := 2000000) (disch := omega) only [↓reduceIte, go_sem, Int.reduceToNat, Nat.reduceAdd, Nat.reduceLeDiff, Nat.reduceEqDiff, Nat.reduceSub, Nat.reduceMul, reduceCtorEq]
 refine callL (C61 _) ?_
 simp -implicitDefEqProofs (maxSteps := 2000000) (disch := omega) only [↓reduceIte, go_sem, Int.reduceToNat, Nat.reduceAdd, Nat.reduceLeDiff, Nat.reduceEqDiff, Nat.reduceSub, Nat.reduceMul, reduceCtorEq]
 have hlen : ((onesI s).map encZ).length = R.length := by simp [hol, hll]
 refine rangeM (σ := Nat) (xs := (onesI s).map encZ) rfl rfl hi (fun x hx => by obtain ⟨s, _, rfl⟩ := List.mem_map.1 hx; rfl)
  (fun k => [(5, .box [.hs 1005 k 0 k]), (1005, .arr k 1 ((R.take k).map encN))]) (fun k s => s = k ∧ k ≤ R.length) 0 (by simp -implicitDefEqProofs (maxSteps := 2000000) (disch := omega) only [↓reduceIte, go_sem, Int.reduceToNat, Nat.reduceAdd, Nat.reduceLeDiff, Nat.reduceEqDiff, Nat.reduceSub, Nat.reduceMul, reduceCtorEq]) ⟨rfl, Nat.zero_le _⟩ (fun s => rfl) ?_ ?_
 ·rintro k x s1 hxk ⟨rfl, hk⟩
  obtain ⟨y, hy, rfl⟩ : ∃ y, (onesI s)[s1]? = some y ∧ encZ y = x := by simpa using hxk
  have hlt := (List.getElem?_eq_some_iff.1 hy).1
  have ⟨j, e1, e2, z, e3, e4⟩ := hx s1 y hy
  have hc : ((s1 + 1 : Nat) : Int) * ((8 : Nat) : Int) ≤ 70368744177664 := by omega
  have h1 : (R.take s1).length = s1 := by rw [List.length_take]; omega
  rw [e1]
  simp -implicitDefEqProofs (maxSteps := 2000000) (disch := omega) only [↓reduceIte, go_sem, Int.reduceToNat, Nat.reduceAdd, Nat.reduceLeDiff, Nat.reduceEqDiff, Nat.reduceSub, Nat.reduceMul, reduceCtorEq, encZ, e3, encN, h1, hc]
  refine ⟨rfl, accL (by kernel_rfl) ?_⟩
  simp -implicitDefEqProofs (maxSteps := 2000000) (disch := omega) only [↓reduceIte, go_sem, Int.reduceToNat, Nat.reduceAdd, Nat.reduceLeDiff, Nat.reduceEqDiff, Nat.reduceSub, Nat.reduceMul, reduceCtorEq, encZ, e3, encN, h1, hc]
  exact ⟨s1 + 1, by rw [e4]; simp [encN], rfl, by omega⟩
 ·rintro s1 ⟨rfl, hk⟩
  rw [hlen]
  simp -implicitDefEqProofs (maxSteps := 2000000) (disch := omega) only [↓reduceIte, go_sem, Int.reduceToNat, Nat.reduceAdd, Nat.reduceLeDiff, Nat.reduceEqDiff, Nat.reduceSub, Nat.reduceMul, reduceCtorEq]
  rw [List.take_length]
  exact ⟨rfl, rfl⟩
def isL (outs : List (List Bool)) (b : Int) : Bool := decide (0 ≤ b ∧ b < outs.length)
theorem C34 (f : Fnc) (u : List Int) (ins outs : List (List Bool)) (b : Int) : Ctr Tryd.prog 34 [lvP f u ins outs, .int .i64 b] [] (ret [.bool (isL ins b)]) := by
 apply ctr_b A34_ok rfl (Nat.le_of_ble_eq_true rfl)
 unfold A34 lvP isL
 simp only [initL, Nat.reduceAdd]
 simp -implicitDefEqProofs (maxSteps := 2000000) (disch := omega) only [↓reduceIte, go_sem, Int.reduceToNat, Nat.reduceAdd, Nat.reduceLeDiff, Nat.reduceEqDiff, Nat.reduceSub, Nat.reduceMul, reduceCtorEq]
 refine ifD (fun c => ?_) (fun c => ?_)
 ·simp -implicitDefEqProofs (maxSteps := 2000000) (disch := omega) only [↓reduceIte, go_sem, Int.reduceToNat, Nat.reduceAdd, Nat.reduceLeDiff, Nat.reduceEqDiff, Nat.reduceSub, Nat.reduceMul, reduceCtorEq]
  refine ⟨?_, rfl⟩
  congr 2
  simp
  omega
 ·simp -implicitDefEqProofs (maxSteps := 2000000) (disch := omega) only [↓reduceIte, go_sem, Int.reduceToNat, Nat.reduceAdd, Nat.reduceLeDiff, Nat.reduceEqDiff, Nat.reduceSub, Nat.reduceMul, reduceCtorEq]
  refine ⟨?_, rfl⟩
  congr 2
  simp
  omega
theorem C10_no (f : Fnc) (u : List Int) (ins outs : List (List Bool)) (b : Int) (h : isL ins b = false) : Ctr Tryd.prog 10 [lvP f u ins outs, .int .i64 b] [] (ret [.sl []]) := by
 have hi := C34 f u ins outs b
 rw [h] at hi
 apply ctr_b A10_ok rfl (Nat.le_of_ble_eq_true rfl)
 unfold A10
 have ⟨L, eL⟩ : ∃ L, lvP f u ins outs = .rp L := ⟨_, rfl⟩
 rw [eL] at hi ⊢
 simp only [initL, Nat.reduceAdd]
 simp -implicitDefEqProofs (maxSteps := 2000000) (disch := omega) only [↓reduceIte, go_sem, Int.reduceToNat, Nat.reduceAdd, Nat.reduceLeDiff, Nat.reduceEqDiff, Nat.reduceSub, Nat.reduceMul, reduceCtorEq]
 refine callL hi ?_
 simp -implicitDefEqProofs (maxSteps := 2000000) (disch := omega) only [↓reduceIte, go_sem, Int.reduceToNat, Nat.reduceAdd, Nat.reduceLeDiff, Nat.reduceEqDiff, Nat.reduceSub, Nat.reduceMul, reduceCtorEq]
 exact ⟨rfl, rfl⟩
theorem C10 (f : Fnc) (u : List Int) (ins outs : List (List Bool)) (n b : Nat) (s : List Bool) (hb : ins[b]? = some s) (hn : s.length = n) (hu : u.length = n) (hm : n < 1000000) : Ctr Tryd.prog 10 [lvP f u ins outs, .int .i64 (b : Int)] [] (ret [.sl ((listL u s).map encN)]) := by
 have hi := C34 f u ins outs b
 have hlt := (List.getElem?_eq_some_iff.1 hb).1
 rw [show isL ins b = true by simp [isL]; omega] at hi
 have hl := C33 f u ins outs n s hn hu hm
 have htk : ((listL u s).map encN).take (listL u s).length = (listL u s).map encN := List.take_of_length_le (by simp)
 generalize listL u s = R at hl htk ⊢
 apply ctr_b A10_ok rfl (Nat.le_of_ble_eq_true rfl)
 unfold A10
 unfold lvP at hi hl ⊢
 simp only [initL, Nat.reduceAdd]
 simp -implicitDefEqProofs (maxSteps := 2000000) (disch := omega) only [↓reduceIte, go_sem, Int.reduceToNat, Nat.reduceAdd, Nat.reduceLeDiff, Nat.reduceEqDiff, Nat.reduceSub, Nat.reduceMul, reduceCtorEq]
 refine callL hi ?_
 simp -implicitDefEqProofs (maxSteps := 2000000) (disch := omega) only [↓reduceIte, go_sem, Int.reduceToNat, Nat.reduceAdd, Nat.reduceLeDiff, Nat.reduceEqDiff, Nat.reduceSub, Nat.reduceMul, reduceCtorEq, hb, encSet, setP, hn]
 refine callD hl ?_
 simp -implicitDefEqProofs (maxSteps := 2000000) (disch := omega) only [↓reduceIte, go_sem, Int.reduceToNat, Nat.reduceAdd, Nat.reduceLeDiff, Nat.reduceEqDiff, Nat.reduceSub, Nat.reduceMul, reduceCtorEq]
 exact ⟨rfl, rfl⟩
theorem C13_no (f : Fnc) (u : List Int) (ins outs : List (List Bool)) (b : Int) (h : isL ins b = false) : Ctr Tryd.prog 13 [lvP f u ins outs, .int .i64 b] [] (ret [.sl []]) := by
 have hi := C34 f u ins outs b
 rw [h] at hi
 apply ctr_b A13_ok rfl (Nat.le_of_ble_eq_true rfl)
 unfold A13
 have ⟨L, eL⟩ : ∃ L, lvP f u ins outs = .rp L := ⟨_, rfl⟩
 rw [eL] at hi ⊢
 simp only [initL, Nat.reduceAdd]
 simp -implicitDefEqProofs (maxSteps := 2000000) (disch := omega) only [↓reduceIte, go_sem, Int.reduceToNat, Nat.reduceAdd, Nat.reduceLeDiff, Nat.reduceEqDiff, Nat.reduceSub, Nat.reduceMul, reduceCtorEq]
 refine callL hi ?_
 simp -implicitDefEqProofs (maxSteps := 2000000) (disch := omega) only [↓reduceIte, go_sem, Int.reduceToNat, Nat.reduceAdd, Nat.reduceLeDiff, Nat.reduceEqDiff, Nat.reduceSub, Nat.reduceMul, reduceCtorEq]
 exact ⟨rfl, rfl⟩
theorem C13 (f : Fnc) (u : List Int) (ins outs : List (List Bool)) (n b : Nat) (s : List Bool) (hb : outs[b]? = some s) (hil : b < ins.length) (hn : s.length = n) (hu : u.length = n) (hm : n < 1000000) : Ctr Tryd.prog 13 [lvP f u ins outs, .int .i64 (b : Int)] [] (ret [.sl ((listL u s).map encN)]) := by
 have hi := C34 f u ins outs b
 rw [show isL ins b = true by simp [isL]; omega] at hi
 have hl := C33 f u ins outs n s hn hu hm
 have htk : ((listL u s).map encN).take (listL u s).length = (listL u s).map encN := List.take_of_length_le (by simp)
 generalize listL u s = R at hl htk ⊢
 apply ctr_b A13_ok rfl (Nat.le_of_ble_eq_true rfl)
 unfold A13
 unfold lvP at hi hl ⊢
 simp only [initL, Nat.reduceAdd]
 simp -implicitDefEqProofs (maxSteps := 2000000) (disch := omega) only [↓reduceIte, go_sem, Int.reduceToNat, Nat.reduceAdd, Nat.reduceLeDiff, Nat.reduceEqDiff, Nat.reduceSub, Nat.reduceMul, reduceCtorEq]
 refine callL hi ?_
 simp -implicitDefEqProofs (maxSteps := 2000000) (disch := omega) only [↓reduceIte, go_sem, Int.reduceToNat, Nat.reduceAdd, Nat.reduceLeDiff, Nat.reduceEqDiff, Nat.reduceSub, Nat.reduceMul, reduceCtorEq, hb, encSet, setP, hn]
 refine callD hl ?_
 simp -implicitDefEqProofs (maxSteps := 2000000) (disch := omega) only [↓reduceIte, go_sem, Int.reduceToNat, Nat.reduceAdd, Nat.reduceLeDiff, Nat.reduceEqDiff, Nat.reduceSub, Nat.reduceMul, reduceCtorEq]
 exact ⟨rfl, rfl⟩
def blk0 : Blk := ⟨.empty, false, [], []⟩
def ins0 : Ins := ⟨0, ⟨0, 0, 0, 0⟩, [], .empty, 0, [], []⟩
/-- What live.New gives is of one size, and short. -/
structure LvOk (f : Fnc) (u : List Int) (ins outs : List (List Bool)) : Prop where
 pt : PtOk f.blocks
 srt : Srt u
 ul : u.length < 1000000
 il : ins.length = f.blocks.length
 ol : outs.length = f.blocks.length
 is : ∀ s ∈ ins, s.length = u.length
 os : ∀ s ∈ outs, s.length = u.length
 ar : ∀ B ∈ f.blocks, ∀ x ∈ B.code, x.args.length ≤ 9223372036854775807
 cl : ∀ B ∈ f.blocks, B.code.length < 1000000
def defS (u : List Int) (x : Ins) (s : List Bool) : List Bool := if x.dst.kind = 1 then addS s (placeL u x.dst.n) else s
theorem defS_len {u : List Int} {s : List Bool} {x : Ins} : (defS u x s).length = s.length := by unfold defS; split <;> simp [addS_len]
/-- What is present ahead of instruction i of block b (odd = false), and behind it. -/
def atS (f : Fnc) (u : List Int) (outs : List (List Bool)) (b i : Nat) (odd : Bool) : List Bool :=
 if odd = true then defS u ((f.blocks.getD b blk0).code.getD i ins0) (backS u ((f.blocks.getD b blk0).code.drop (i + 1)) (outs.getD b [])) else backS u ((f.blocks.getD b blk0).code.drop i) (outs.getD b [])
def atO (f : Fnc) (u : List Int) (outs : List (List Bool)) (p : Int) : Option (List Bool) :=
 if blockP f.blocks p < 0 then none else some (atS f u outs (whereP f.blocks (p / 2)).1.toNat (whereP f.blocks (p / 2)).2.toNat (p % 2 == 1))
def setA (n : Nat) (s : List Bool) : AV := .rp [.int .i64 (n : Int), .sl (encWs s)]
def optV (n : Nat) : Option (List Bool) → AV
 | none => .nilp
 | some s => setA n s
theorem atS_len {f : Fnc} {u : List Int} {ins outs : List (List Bool)} (h : LvOk f u ins outs) {b i : Nat} (hb : b < f.blocks.length) {o : Bool} : (atS f u outs b i o).length = u.length := by
 have hs : (outs.getD b []).length = u.length := by
  have hlt : b < outs.length := by rw [h.ol]; exact hb
  rw [List.getD_eq_getElem?_getD, List.getElem?_eq_getElem hlt]
  exact h.os _ (List.getElem_mem hlt)
 unfold atS
 split
 ·rw [defS_len, backS_len, hs]
 ·rw [backS_len, hs]
/-- The block of a point, and where in it. -/
theorem blockP_in {bs : List Blk} {p : Int} (h : ¬ blockP bs p < 0) : 0 ≤ p ∧ p / 2 < sumTo bs bs.length ∧ blockP bs p = (whB bs (p / 2) : Int) ∧ whereP bs (p / 2) = ((whB bs (p / 2) : Int), p / 2 - (sumTo bs (whB bs (p / 2)) : Int)) := by
 unfold blockP at h ⊢
 have hp : ¬ p < 0 := fun c => h (by rw [if_pos c]; omega)
 rw [if_neg hp] at h ⊢
 have h2 : ¬ (0 ≤ (whereP bs (p / 2)).1 ∧ p % 2 = 1 ∧ behindP bs (whereP bs (p / 2)).1 (whereP bs (p / 2)).2 < 0) := fun c => h (by rw [if_pos c]; omega)
 rw [if_neg h2] at h ⊢
 have hw : whereP bs (p / 2) = ((whB bs (p / 2) : Int), p / 2 - (sumTo bs (whB bs (p / 2)) : Int)) := by
  unfold whereP at h ⊢
  by_cases c : p / 2 < 0 ∨ (sumTo bs bs.length : Int) ≤ p / 2
  ·rw [if_pos c] at h
   omega
  ·rw [if_neg c]
 refine ⟨by omega, ?_, by rw [hw], hw⟩
 apply Int.lt_of_not_ge
 intro c
 apply h
 unfold whereP
 rw [if_pos (Or.inr c)]
 omega
theorem blockP_at {bs : List Blk} (hk : PtOk bs) {p : Int} (h : ¬ blockP bs p < 0) : ∃ b i : Nat, ∃ B, bs[b]? = some B ∧ i < B.code.length ∧ blockP bs p = (b : Int) ∧ whereP bs (p / 2) = ((b : Int), (i : Int)) ∧ 0 ≤ p ∧ p < 2000000000 := by
 have ⟨h0, h1, h2, h3⟩ := blockP_in h
 have ⟨_, w1, w2, w3⟩ := whB_spec (bs := bs) (n := p / 2) (by omega) h1
 have hB := List.getElem?_eq_getElem w1
 have hsu := sumTo_succ hB
 have hsm := hk.sum
 refine ⟨whB bs (p / 2), (p / 2 - (sumTo bs (whB bs (p / 2)) : Int)).toNat, _, hB, by omega, h2, ?_, h0, by omega⟩
 rw [h3]
 congr 1
 omega
theorem C32 (f : Fnc) (u : List Int) (ins outs : List (List Bool)) (p : Int) (h : LvOk f u ins outs) (hp : p < 9223372036854775808) :
  Ctr Tryd.prog 32 [lvP f u ins outs, .int .i64 p] [] (ret [optV u.length (atO f u outs p)]) := by
 have hb := C58 f.blocks h.pt p hp
 have hw := C59 f.blocks h.pt (p / 2)
 by_cases hc : blockP f.blocks p < 0
 ·have e : atO f u outs p = none := by rw [atO, if_pos hc]
  rw [e]
  simp only [optV]
  generalize blockP f.blocks p = q at hb hc
  apply ctr_b A32_ok rfl (Nat.le_of_ble_eq_true rfl)
  unfold A32 lvP
  have ⟨PT, ePT⟩ : ∃ PT, ptP f.blocks = .rp PT := ⟨_, rfl⟩
  rw [ePT] at hb ⊢
  simp only [initL, Nat.reduceAdd]
  simp -implicitDefEqProofs (maxSteps := 2000000) (disch := omega) only [↓reduceIte, go_sem, Int.reduceToNat, Nat.reduceAdd, Nat.reduceLeDiff, Nat.reduceEqDiff, Nat.reduceSub, Nat.reduceMul, reduceCtorEq]
  refine callL hb ?_
  simp -implicitDefEqProofs (maxSteps := 2000000) (disch := omega) only [↓reduceIte, go_sem, Int.reduceToNat, Nat.reduceAdd, Nat.reduceLeDiff, Nat.reduceEqDiff, Nat.reduceSub, Nat.reduceMul, reduceCtorEq]
  exact ⟨rfl, rfl⟩
 ·have ⟨b, i, B, hB, hi, e1, e2, hp0, hp1⟩ := blockP_at h.pt hc
  have hbl := (List.getElem?_eq_some_iff.1 hB).1
  have ho : outs[b]? = some (outs.getD b []) := by
   rw [List.getElem?_eq_getElem (by rw [h.ol]; exact hbl), List.getD_eq_getElem?_getD, List.getElem?_eq_getElem (by rw [h.ol]; exact hbl)]
   rfl
  have hsl : (outs.getD b []).length = u.length := h.os _ (List.mem_of_getElem? ho)
  have hbm := List.mem_of_getElem? hB
  have hx := List.getElem?_eq_getElem hi
  have eB : f.blocks.getD b blk0 = B := by rw [List.getD_eq_getElem?_getD, hB]; rfl
  have ex : B.code.getD i ins0 = B.code[i] := by rw [List.getD_eq_getElem?_getD, hx]; rfl
  have e3 : atO f u outs p = some (atS f u outs b i (p % 2 == 1)) := by rw [atO, if_neg hc, e2]; rfl
  have hll := h.cl B hbm
  have hul := h.ul
  have u1 := fun k (hk : k ≤ B.code.length) => C29 f u ins outs u.length b k B _ h.srt h.ul hsl (by omega) hB ho hk (h.ar B hbm) hll
  have u2 := u1 i (by omega)
  have u3 := u1 (i + 1) (by omega)
  have hbk1 : (backS u (B.code.drop (i + 1)) (outs.getD b [])).length = u.length := by rw [backS_len, hsl]
  have hpl := C40 f u ins outs B.code[i].dst.n h.srt h.ul
  have had := addVN (v := 1) (i := placeL u B.code[i].dst.n) hbk1 (by omega)
  rw [e3]
  unfold atS
  rw [eB, ex]
  rw [e1] at hb
  rw [e2] at hw
  generalize B.code[i] = x at hx hpl had ⊢
  have ht : p.tdiv 2 = p / 2 := Int.tdiv_eq_ediv_of_nonneg (by omega)
  have ht2 : IntKind.i64.wrap (p / 2) = p / 2 := wrap64 (by omega) (by omega)
  have ht3 : p.tmod 2 = p % 2 := Int.tmod_eq_emod_of_nonneg (by omega)
  have ht4 : IntKind.i64.wrap ((i : Int) + 1) = ((i + 1 : Nat) : Int) := by rw [wrap64 (by omega) (by omega)]; omega
  have tk : ∀ s : List Bool, s.length = u.length → (encWs s).take (nw u.length) = encWs s := fun s e => by rw [← e]; exact encWs_take s
  have tk0 := tk (backS u (B.code.drop i) (outs.getD b [])) (by rw [backS_len, hsl])
  have tk1 := tk (defS u x (backS u (B.code.drop (i + 1)) (outs.getD b []))) (by rw [defS_len, backS_len, hsl])
  have hd1 : x.dst.kind = 1 → addS (backS u (B.code.drop (i + 1)) (outs.getD b [])) (placeL u x.dst.n) = defS u x (backS u (B.code.drop (i + 1)) (outs.getD b [])) := fun e => by rw [defS, if_pos e]
  have hd2 : ¬ x.dst.kind = 1 → backS u (B.code.drop (i + 1)) (outs.getD b []) = defS u x (backS u (B.code.drop (i + 1)) (outs.getD b [])) := fun e => by rw [defS, if_neg e]
  unfold setN at u2 u3 had
  generalize u.length = n at u2 u3 had tk0 tk1 ⊢
  generalize defS u x (backS u (B.code.drop (i + 1)) (outs.getD b [])) = t at hd1 hd2 tk1 ⊢
  generalize backS u (B.code.drop (i + 1)) (outs.getD b []) = t1 at hd1 hd2 u3 had ⊢
  generalize backS u (B.code.drop i) (outs.getD b []) = t0 at u2 tk0 ⊢
  generalize placeL u x.dst.n = pl at hd1 had hpl
  apply ctr_b A32_ok rfl (Nat.le_of_ble_eq_true rfl)
  unfold A32
  unfold lvP at u2 u3 hpl ⊢
  have ⟨PT, ePT⟩ : ∃ PT, ptP f.blocks = .rp PT := ⟨_, rfl⟩
  rw [ePT] at hb hw u2 u3 hpl ⊢
  simp only [initL, Nat.reduceAdd]
  simp -implicitDefEqProofs (maxSteps := 2000000) (disch := omega) only [↓reduceIte, go_sem, Int.reduceToNat, Nat.reduceAdd, Nat.reduceLeDiff, Nat.reduceEqDiff, Nat.reduceSub, Nat.reduceMul, reduceCtorEq]
  refine callL hb ?_
  simp -implicitDefEqProofs (maxSteps := 2000000) (disch := omega) only [↓reduceIte, go_sem, Int.reduceToNat, Nat.reduceAdd, Nat.reduceLeDiff, Nat.reduceEqDiff, Nat.reduceSub, Nat.reduceMul, reduceCtorEq, ht, ht2, ht3]
  refine callL hw ?_
  simp -implicitDefEqProofs (maxSteps := 2000000) (disch := omega) only [↓reduceIte, go_sem, Int.reduceToNat, Nat.reduceAdd, Nat.reduceLeDiff, Nat.reduceEqDiff, Nat.reduceSub, Nat.reduceMul, reduceCtorEq, ht, ht2, ht3]
  refine ifE (fun e => ?_) (fun e => ?_)
  ·simp -implicitDefEqProofs (maxSteps := 2000000) (disch := omega) only [↓reduceIte, go_sem, Int.reduceToNat, Nat.reduceAdd, Nat.reduceLeDiff, Nat.reduceEqDiff, Nat.reduceSub, Nat.reduceMul, reduceCtorEq]
   refine callD u2 ?_
   simp -implicitDefEqProofs (maxSteps := 2000000) (disch := omega) only [↓reduceIte, go_sem, Int.reduceToNat, Nat.reduceAdd, Nat.reduceLeDiff, Nat.reduceEqDiff, Nat.reduceSub, Nat.reduceMul, reduceCtorEq, tk0]
   have he : (p % 2 == 1) = false := by simp; omega
   exact ⟨by rw [he]; rfl, rfl⟩
  ·simp -implicitDefEqProofs (maxSteps := 2000000) (disch := omega) only [↓reduceIte, go_sem, Int.reduceToNat, Nat.reduceAdd, Nat.reduceLeDiff, Nat.reduceEqDiff, Nat.reduceSub, Nat.reduceMul, reduceCtorEq, ht4]
   refine callD u3 ?_
   simp -implicitDefEqProofs (maxSteps := 2000000) (disch := omega) only [↓reduceIte, go_sem, Int.reduceToNat, Nat.reduceAdd, Nat.reduceLeDiff, Nat.reduceEqDiff, Nat.reduceSub, Nat.reduceMul, reduceCtorEq, hB, encBk, hx, encIn]
   have he : (p % 2 == 1) = true := by simp; omega
   refine ifE (fun e4 => ?_) (fun e4 => ?_)
   ·simp -implicitDefEqProofs (maxSteps := 2000000) (disch := omega) only [↓reduceIte, go_sem, Int.reduceToNat, Nat.reduceAdd, Nat.reduceLeDiff, Nat.reduceEqDiff, Nat.reduceSub, Nat.reduceMul, reduceCtorEq]
    refine callL hpl ?_
    simp -implicitDefEqProofs (maxSteps := 2000000) (disch := omega) only [↓reduceIte, go_sem, Int.reduceToNat, Nat.reduceAdd, Nat.reduceLeDiff, Nat.reduceEqDiff, Nat.reduceSub, Nat.reduceMul, reduceCtorEq]
    refine callD had ?_
    simp -implicitDefEqProofs (maxSteps := 2000000) (disch := omega) only [↓reduceIte, go_sem, Int.reduceToNat, Nat.reduceAdd, Nat.reduceLeDiff, Nat.reduceEqDiff, Nat.reduceSub, Nat.reduceMul, reduceCtorEq]
    rw [hd1 e4]
    simp -implicitDefEqProofs (maxSteps := 2000000) (disch := omega) only [↓reduceIte, go_sem, Int.reduceToNat, Nat.reduceAdd, Nat.reduceLeDiff, Nat.reduceEqDiff, Nat.reduceSub, Nat.reduceMul, reduceCtorEq, tk1]
    exact ⟨by rw [he]; rfl, rfl⟩
   ·rw [hd2 e4]
    simp -implicitDefEqProofs (maxSteps := 2000000) (disch := omega) only [↓reduceIte, go_sem, Int.reduceToNat, Nat.reduceAdd, Nat.reduceLeDiff, Nat.reduceEqDiff, Nat.reduceSub, Nat.reduceMul, reduceCtorEq, tk1]
    exact ⟨by rw [he]; rfl, rfl⟩
theorem atO_len {f : Fnc} {u : List Int} {ins outs : List (List Bool)} (h : LvOk f u ins outs) {p : Int} {s : List Bool} (e : atO f u outs p = some s) : s.length = u.length := by
 unfold atO at e
 split at e
 ·cases e
 ·rename_i hc
  have ⟨b, i, B, hB, _, _, e2, _⟩ := blockP_at h.pt hc
  rw [e2] at e
  rw [← Option.some.inj e]
  exact atS_len h (List.getElem?_eq_some_iff.1 hB).1
def presL (f : Fnc) (u : List Int) (outs : List (List Bool)) (p : Int) : List Int := match atO f u outs p with
 | none => []
 | some s => listL u s
theorem presL_le {f : Fnc} {u : List Int} {ins outs : List (List Bool)} (h : LvOk f u ins outs) {p : Int} : (presL f u outs p).length ≤ u.length := by
 unfold presL
 split
 ·exact Nat.zero_le _
 ·rename_i s e
  have := listL_le (u := u) (s := s)
  rw [atO_len h e] at this
  exact this
theorem C9 (f : Fnc) (u : List Int) (ins outs : List (List Bool)) (p : Int) (h : LvOk f u ins outs) (hp : p < 9223372036854775808) :
  Ctr Tryd.prog 9 [lvP f u ins outs, .int .i64 p] [] (ret [.sl ((presL f u outs p).map encN)]) := by
 have ha := C32 f u ins outs p h hp
 unfold presL
 cases e : atO f u outs p with
 | none =>
  rw [e] at ha
  simp only [optV] at ha
  have ⟨L, eL⟩ : ∃ L, lvP f u ins outs = .rp L := ⟨_, rfl⟩
  rw [eL] at ha ⊢
  apply ctr_b A9_ok rfl (Nat.le_of_ble_eq_true rfl)
  unfold A9
  simp only [initL, Nat.reduceAdd]
  simp -implicitDefEqProofs (maxSteps := 2000000) (disch := omega) only [↓reduceIte, go_sem, Int.reduceToNat, Nat.reduceAdd, Nat.reduceLeDiff, Nat.reduceEqDiff, Nat.reduceSub, Nat.reduceMul, reduceCtorEq]
  refine callL ha ?_
  simp -implicitDefEqProofs (maxSteps := 2000000) (disch := omega) only [↓reduceIte, go_sem, Int.reduceToNat, Nat.reduceAdd, Nat.reduceLeDiff, Nat.reduceEqDiff, Nat.reduceSub, Nat.reduceMul, reduceCtorEq]
  exact ⟨rfl, rfl⟩
 | some s =>
  have hl := C33 f u ins outs u.length s (atO_len h e) rfl h.ul
  rw [e] at ha
  simp only [optV, setA] at ha
  have htk : ((listL u s).map encN).take (listL u s).length = (listL u s).map encN := List.take_of_length_le (by simp)
  simp only
  generalize listL u s = R at hl htk ⊢
  have ⟨L, eL⟩ : ∃ L, lvP f u ins outs = .rp L := ⟨_, rfl⟩
  rw [eL] at ha hl ⊢
  apply ctr_b A9_ok rfl (Nat.le_of_ble_eq_true rfl)
  unfold A9
  simp only [initL, Nat.reduceAdd]
  simp -implicitDefEqProofs (maxSteps := 2000000) (disch := omega) only [↓reduceIte, go_sem, Int.reduceToNat, Nat.reduceAdd, Nat.reduceLeDiff, Nat.reduceEqDiff, Nat.reduceSub, Nat.reduceMul, reduceCtorEq]
  refine callL ha ?_
  simp -implicitDefEqProofs (maxSteps := 2000000) (disch := omega) only [↓reduceIte, go_sem, Int.reduceToNat, Nat.reduceAdd, Nat.reduceLeDiff, Nat.reduceEqDiff, Nat.reduceSub, Nat.reduceMul, reduceCtorEq]
  refine callD hl ?_
  simp -implicitDefEqProofs (maxSteps := 2000000) (disch := omega) only [↓reduceIte, go_sem, Int.reduceToNat, Nat.reduceAdd, Nat.reduceLeDiff, Nat.reduceEqDiff, Nat.reduceSub, Nat.reduceMul, reduceCtorEq, htk]
  exact ⟨rfl, rfl⟩
def thrS (f : Fnc) (u : List Int) (outs : List (List Bool)) (b i : Nat) : List Bool := dstS u ((f.blocks.getD b blk0).code.getD i ins0) (backS u ((f.blocks.getD b blk0).code.drop (i + 1)) (outs.getD b []))
def thrL (f : Fnc) (u : List Int) (outs : List (List Bool)) (b i : Int) : List Int := if ofP f.blocks b i < 0 then [] else listL u (thrS f u outs b.toNat i.toNat)
theorem C14 (f : Fnc) (u : List Int) (ins outs : List (List Bool)) (b i : Int) (h : LvOk f u ins outs) :
  Ctr Tryd.prog 14 [lvP f u ins outs, .int .i64 b, .int .i64 i] [] (ret [.sl ((thrL f u outs b i).map encN)]) := by
 have his := C34 f u ins outs b
 have hof := C38 f.blocks h.pt b i
 unfold thrL
 by_cases hc : ofP f.blocks b i < 0
 ·rw [if_pos hc]
  generalize ofP f.blocks b i = q at hof hc
  generalize isL ins b = z at his
  apply ctr_b A14_ok rfl (Nat.le_of_ble_eq_true rfl)
  unfold A14
  unfold lvP at his ⊢
  have ⟨PT, ePT⟩ : ∃ PT, ptP f.blocks = .rp PT := ⟨_, rfl⟩
  rw [ePT] at his hof ⊢
  simp only [initL, Nat.reduceAdd]
  simp -implicitDefEqProofs (maxSteps := 2000000) (disch := omega) only [↓reduceIte, go_sem, Int.reduceToNat, Nat.reduceAdd, Nat.reduceLeDiff, Nat.reduceEqDiff, Nat.reduceSub, Nat.reduceMul, reduceCtorEq]
  refine callL his ?_
  simp -implicitDefEqProofs (maxSteps := 2000000) (disch := omega) only [↓reduceIte, go_sem, Int.reduceToNat, Nat.reduceAdd, Nat.reduceLeDiff, Nat.reduceEqDiff, Nat.reduceSub, Nat.reduceMul, reduceCtorEq]
  refine ifB (fun c => ?_) (fun c => ?_)
  ·simp -implicitDefEqProofs (maxSteps := 2000000) (disch := omega) only [↓reduceIte, go_sem, Int.reduceToNat, Nat.reduceAdd, Nat.reduceLeDiff, Nat.reduceEqDiff, Nat.reduceSub, Nat.reduceMul, reduceCtorEq]
   refine callL hof ?_
   simp -implicitDefEqProofs (maxSteps := 2000000) (disch := omega) only [↓reduceIte, go_sem, Int.reduceToNat, Nat.reduceAdd, Nat.reduceLeDiff, Nat.reduceEqDiff, Nat.reduceSub, Nat.reduceMul, reduceCtorEq]
   exact ⟨rfl, rfl⟩
  ·simp -implicitDefEqProofs (maxSteps := 2000000) (disch := omega) only [↓reduceIte, go_sem, Int.reduceToNat, Nat.reduceAdd, Nat.reduceLeDiff, Nat.reduceEqDiff, Nat.reduceSub, Nat.reduceMul, reduceCtorEq]
   exact ⟨rfl, rfl⟩
 ·rw [if_neg hc]
  have ho : ofP f.blocks b i = (sumTo f.blocks b.toNat : Int) + i ∧ 0 ≤ i ∧ i < lenP f.blocks b := by
   unfold ofP at hc ⊢
   split
   ·rename_i c
    rw [if_pos c] at hc
    omega
   ·omega
  have hin := lenP_in ho.2.1 ho.2.2
  have ⟨B, hB⟩ : ∃ B, f.blocks[b.toNat]? = some B := ⟨_, List.getElem?_eq_getElem (by omega)⟩
  have hsu := sumTo_succ hB
  have hil : isL ins b = true := by
   simp only [isL, h.il, decide_eq_true_eq]
   omega
  have hi : i.toNat < B.code.length := by omega
  have hbl := (List.getElem?_eq_some_iff.1 hB).1
  have hout : outs[b.toNat]? = some (outs.getD b.toNat []) := by
   rw [List.getElem?_eq_getElem (by rw [h.ol]; exact hbl), List.getD_eq_getElem?_getD, List.getElem?_eq_getElem (by rw [h.ol]; exact hbl)]
   rfl
  have hsl : (outs.getD b.toNat []).length = u.length := h.os _ (List.mem_of_getElem? hout)
  have hbm := List.mem_of_getElem? hB
  have hx := List.getElem?_eq_getElem hi
  have eB : f.blocks.getD b.toNat blk0 = B := by rw [List.getD_eq_getElem?_getD, hB]; rfl
  have ex : B.code.getD i.toNat ins0 = B.code[i.toNat] := by rw [List.getD_eq_getElem?_getD, hx]; rfl
  have hll := h.cl B hbm
  have hul := h.ul
  have u1 := C29 f u ins outs u.length b.toNat (i.toNat + 1) B _ h.srt h.ul hsl (by omega) hB hout hi (h.ar B hbm) hll
  have hb1 : ((b.toNat : Nat) : Int) = b := by omega
  have hi1 : ((i.toNat + 1 : Nat) : Int) = i + 1 := by omega
  rw [hb1, hi1] at u1
  have ht4 : IntKind.i64.wrap (i + 1) = i + 1 := wrap64 (by omega) (by omega)
  have hbk1 : (backS u (B.code.drop (i.toNat + 1)) (outs.getD b.toNat [])).length = u.length := by rw [backS_len, hsl]
  have hpl := C40 f u ins outs B.code[i.toNat].dst.n h.srt h.ul
  have hdr := dropVN (v := 1) (i := placeL u B.code[i.toNat].dst.n) hbk1 (by omega)
  unfold thrS
  rw [eB, ex]
  rw [hil] at his
  generalize B.code[i.toNat] = x at hx hpl hdr ⊢
  have hth : (dstS u x (backS u (B.code.drop (i.toNat + 1)) (outs.getD b.toNat []))).length = u.length := by rw [dstS_len, hbk1]
  have hl := C33 f u ins outs u.length _ hth rfl h.ul
  have hd1 : x.dst.kind = 1 → dropS (backS u (B.code.drop (i.toNat + 1)) (outs.getD b.toNat [])) (placeL u x.dst.n) = dstS u x (backS u (B.code.drop (i.toNat + 1)) (outs.getD b.toNat [])) := fun e => by rw [dstS, if_pos e]
  have hd2 : ¬ x.dst.kind = 1 → backS u (B.code.drop (i.toNat + 1)) (outs.getD b.toNat []) = dstS u x (backS u (B.code.drop (i.toNat + 1)) (outs.getD b.toNat [])) := fun e => by rw [dstS, if_neg e]
  have tk1 : (encWs (dstS u x (backS u (B.code.drop (i.toNat + 1)) (outs.getD b.toNat [])))).take (nw u.length) = encWs (dstS u x (backS u (B.code.drop (i.toNat + 1)) (outs.getD b.toNat []))) := by rw [← hth]; exact encWs_take _
  unfold setN at u1 hdr
  generalize u.length = n at u1 hdr hl tk1
  generalize hgt : dstS u x (backS u (B.code.drop (i.toNat + 1)) (outs.getD b.toNat [])) = t at hd1 hd2 hl tk1 ⊢
  generalize hgt1 : backS u (B.code.drop (i.toNat + 1)) (outs.getD b.toNat []) = t1 at hd1 hd2 u1 hdr
  generalize placeL u x.dst.n = pl at hd1 hdr hpl
  have htk : ((listL u t).map encN).take (listL u t).length = (listL u t).map encN := List.take_of_length_le (by simp)
  generalize listL u t = R at hl htk ⊢
  generalize hq : ofP f.blocks b i = q at hof hc
  apply ctr_b A14_ok rfl (Nat.le_of_ble_eq_true rfl)
  unfold A14
  unfold lvP at u1 his hpl hl ⊢
  have ⟨PT, ePT⟩ : ∃ PT, ptP f.blocks = .rp PT := ⟨_, rfl⟩
  rw [ePT] at his hof u1 hpl hl ⊢
  simp only [initL, Nat.reduceAdd]
  simp -implicitDefEqProofs (maxSteps := 2000000) (disch := omega) only [↓reduceIte, go_sem, Int.reduceToNat, Nat.reduceAdd, Nat.reduceLeDiff, Nat.reduceEqDiff, Nat.reduceSub, Nat.reduceMul, reduceCtorEq]
  refine callL his ?_
  simp -implicitDefEqProofs (maxSteps := 2000000) (disch := omega) only [↓reduceIte, go_sem, Int.reduceToNat, Nat.reduceAdd, Nat.reduceLeDiff, Nat.reduceEqDiff, Nat.reduceSub, Nat.reduceMul, reduceCtorEq]
  refine callL hof ?_
  simp -implicitDefEqProofs (maxSteps := 2000000) (disch := omega) only [↓reduceIte, go_sem, Int.reduceToNat, Nat.reduceAdd, Nat.reduceLeDiff, Nat.reduceEqDiff, Nat.reduceSub, Nat.reduceMul, reduceCtorEq, ht4]
  refine callD u1 ?_
  simp -implicitDefEqProofs (maxSteps := 2000000) (disch := omega) only [↓reduceIte, go_sem, Int.reduceToNat, Nat.reduceAdd, Nat.reduceLeDiff, Nat.reduceEqDiff, Nat.reduceSub, Nat.reduceMul, reduceCtorEq, hB, encBk, hx, encIn]
  refine ifE (fun e4 => ?_) (fun e4 => ?_)
  ·simp -implicitDefEqProofs (maxSteps := 2000000) (disch := omega) only [↓reduceIte, go_sem, Int.reduceToNat, Nat.reduceAdd, Nat.reduceLeDiff, Nat.reduceEqDiff, Nat.reduceSub, Nat.reduceMul, reduceCtorEq]
   refine callL hpl ?_
   simp -implicitDefEqProofs (maxSteps := 2000000) (disch := omega) only [↓reduceIte, go_sem, Int.reduceToNat, Nat.reduceAdd, Nat.reduceLeDiff, Nat.reduceEqDiff, Nat.reduceSub, Nat.reduceMul, reduceCtorEq]
   refine callD hdr ?_
   simp -implicitDefEqProofs (maxSteps := 2000000) (disch := omega) only [↓reduceIte, go_sem, Int.reduceToNat, Nat.reduceAdd, Nat.reduceLeDiff, Nat.reduceEqDiff, Nat.reduceSub, Nat.reduceMul, reduceCtorEq]
   rw [hd1 e4]
   simp -implicitDefEqProofs (maxSteps := 2000000) (disch := omega) only [↓reduceIte, go_sem, Int.reduceToNat, Nat.reduceAdd, Nat.reduceLeDiff, Nat.reduceEqDiff, Nat.reduceSub, Nat.reduceMul, reduceCtorEq, tk1]
   refine callD hl ?_
   simp -implicitDefEqProofs (maxSteps := 2000000) (disch := omega) only [↓reduceIte, go_sem, Int.reduceToNat, Nat.reduceAdd, Nat.reduceLeDiff, Nat.reduceEqDiff, Nat.reduceSub, Nat.reduceMul, reduceCtorEq, htk]
   refine ⟨by simp [encN, scal1], ?_⟩
   simp -implicitDefEqProofs (maxSteps := 2000000) (disch := omega) only [↓reduceIte, go_sem, Int.reduceToNat, Nat.reduceAdd, Nat.reduceLeDiff, Nat.reduceEqDiff, Nat.reduceSub, Nat.reduceMul, reduceCtorEq, htk]
   exact ⟨rfl, rfl⟩
  ·rw [hd2 e4]
   simp -implicitDefEqProofs (maxSteps := 2000000) (disch := omega) only [↓reduceIte, go_sem, Int.reduceToNat, Nat.reduceAdd, Nat.reduceLeDiff, Nat.reduceEqDiff, Nat.reduceSub, Nat.reduceMul, reduceCtorEq, tk1]
   refine callD hl ?_
   simp -implicitDefEqProofs (maxSteps := 2000000) (disch := omega) only [↓reduceIte, go_sem, Int.reduceToNat, Nat.reduceAdd, Nat.reduceLeDiff, Nat.reduceEqDiff, Nat.reduceSub, Nat.reduceMul, reduceCtorEq, htk]
   refine ⟨by simp [encN, scal1], ?_⟩
   simp -implicitDefEqProofs (maxSteps := 2000000) (disch := omega) only [↓reduceIte, go_sem, Int.reduceToNat, Nat.reduceAdd, Nat.reduceLeDiff, Nat.reduceEqDiff, Nat.reduceSub, Nat.reduceMul, reduceCtorEq, htk]
   exact ⟨rfl, rfl⟩
/- Classes, a value's spans, the most present at once. -/
/-- The class of a value: of the first entry that has its number. -/
def clsO (rs : List Rg) (v : Int) : Option Int := (rs.find? fun r => r.id == v).map fun r => r.cls
theorem find_take {α : Type} {p : α → Bool} {l : List α} {k : Nat} {x : α} (h : ∀ y ∈ l.take k, p y = false) (hx : l[k]? = some x) (hp : p x = true) : l.find? p = some x := by
 induction l generalizing k with
 | nil => cases hx
 | cons a l ih =>
  cases k with
  | zero =>
   rw [List.getElem?_cons_zero] at hx
   rw [Option.some.inj hx, List.find?_cons, hp]
  | succ k =>
   rw [List.getElem?_cons_succ] at hx
   rw [List.take_succ_cons] at h
   rw [List.find?_cons, h a List.mem_cons_self]
   exact ih (fun y hy => h y (List.mem_cons_of_mem _ hy)) hx
theorem C45 (f : Fnc) (v : Int) (hl : f.regs.length < 1000000) : Ctr Tryd.prog 45 [.agg (encFn f), .int .i64 v] [] (ret [.int .i64 ((clsO f.regs v).getD 0), .bool (clsO f.regs v).isSome]) := by
 apply ctr_b A45_ok rfl (Nat.le_of_ble_eq_true rfl)
 unfold A45
 simp only [initL, Nat.reduceAdd]
 simp -implicitDefEqProofs (maxSteps := 2000000) (disch := omega) only [↓reduceIte, go_sem, Int.reduceToNat, Nat.reduceAdd, Nat.reduceLeDiff, Nat.reduceEqDiff, Nat.reduceSub, Nat.reduceMul, reduceCtorEq, encFn]
 refine loopL (σ := Nat) (fun k => ⟨[(1, .int .i64 v), (9, .sl (f.regs.map encRg)), (10, .int .i64 (f.regs.length : Int)), (11, .int .i64 (k : Int))], []⟩)
  (fun k => k ≤ f.regs.length ∧ ∀ y ∈ f.regs.take k, (y.id == v) = false) (fun k => f.regs.length - k) 0 (by simp -implicitDefEqProofs (maxSteps := 2000000) (disch := omega) only [↓reduceIte, go_sem, Int.reduceToNat, Nat.reduceAdd, Nat.reduceLeDiff, Nat.reduceEqDiff, Nat.reduceSub, Nat.reduceMul, reduceCtorEq]; rfl) ⟨Nat.zero_le _, fun y hy => by cases hy⟩ ?_
 rintro k ⟨hk, hn⟩
 simp -implicitDefEqProofs (maxSteps := 2000000) (disch := omega) only [↓reduceIte, go_sem, Int.reduceToNat, Nat.reduceAdd, Nat.reduceLeDiff, Nat.reduceEqDiff, Nat.reduceSub, Nat.reduceMul, reduceCtorEq]
 refine ifD (fun c => ?_) (fun c => ?_)
 ·have hx := List.getElem?_eq_getElem (l := f.regs) (i := k) (by omega)
  generalize f.regs[k] = x at hx
  have hw : IntKind.i64.wrap ((k : Int) + 1) = ((k + 1 : Nat) : Int) := by rw [wrap64 (by omega) (by omega)]; omega
  simp -implicitDefEqProofs (maxSteps := 2000000) (disch := omega) only [↓reduceIte, go_sem, Int.reduceToNat, Nat.reduceAdd, Nat.reduceLeDiff, Nat.reduceEqDiff, Nat.reduceSub, Nat.reduceMul, reduceCtorEq, hx, encRg]
  refine ifE (fun e => ?_) (fun e => ?_)
  ·simp -implicitDefEqProofs (maxSteps := 2000000) (disch := omega) only [↓reduceIte, go_sem, Int.reduceToNat, Nat.reduceAdd, Nat.reduceLeDiff, Nat.reduceEqDiff, Nat.reduceSub, Nat.reduceMul, reduceCtorEq]
   have hf : f.regs.find? (fun r => r.id == v) = some x := find_take hn hx (by simpa using e)
   rw [clsO, hf]
   exact ⟨rfl, rfl⟩
  ·simp -implicitDefEqProofs (maxSteps := 2000000) (disch := omega) only [↓reduceIte, go_sem, Int.reduceToNat, Nat.reduceAdd, Nat.reduceLeDiff, Nat.reduceEqDiff, Nat.reduceSub, Nat.reduceMul, reduceCtorEq, hw]
   refine ⟨k + 1, rfl, ⟨by omega, fun y hy => ?_⟩, by omega⟩
   rw [List.take_add_one, hx] at hy
   rcases List.mem_append.1 hy with hy | hy
   ·exact hn y hy
   ·rw [List.mem_singleton.1 hy]
    simpa using e
 ·simp -implicitDefEqProofs (maxSteps := 2000000) (disch := omega) only [↓reduceIte, go_sem, Int.reduceToNat, Nat.reduceAdd, Nat.reduceLeDiff, Nat.reduceEqDiff, Nat.reduceSub, Nat.reduceMul, reduceCtorEq]
  have hf : f.regs.find? (fun r => r.id == v) = none := by
   rw [List.find?_eq_none]
   intro y hy
   rw [show k = f.regs.length by omega, List.take_length] at hn
   rw [hn y hy]
   simp
  rw [clsO, hf]
  exact ⟨rfl, rfl⟩
def encSp (x : Int × Int) : List AV := [.int .i64 x.1, .int .i64 x.2]
def setTo (l : List (Int × Int)) (q : Int) : List (Int × Int) := l.set (l.length - 1) ((l.getD (l.length - 1) (0, 0)).1, q)
def stepSp (H : Int → Bool) (st : Bool × List (Int × Int)) (p : Int) : Bool × List (Int × Int) :=
 if H p = true then (true, setTo (if st.1 = true then st.2 else st.2 ++ [(p, p)]) (p + 1)) else (false, st.2)
def spJ (H : Int → Bool) (fr : Int) (l : List (Int × Int)) : Nat → Bool × List (Int × Int)
 | 0 => (false, l)
 | j + 1 => stepSp H (spJ H fr l j) (fr + j)
def spB (H : Int → Bool) (bs : List Blk) : Nat → List (Int × Int)
 | 0 => []
 | b + 1 => (spJ H (spanP bs b).1 (spB H bs b) ((spanP bs b).2 - (spanP bs b).1).toNat).2
def hasP (f : Fnc) (u : List Int) (outs : List (List Bool)) (v : Int) (p : Int) : Bool := match atO f u outs p with
 | none => false
 | some s => hasB s (placeL u v)
theorem setTo_len {l : List (Int × Int)} {q : Int} : (setTo l q).length = l.length := by simp [setTo]
theorem stepSp_len {H : Int → Bool} {st : Bool × List (Int × Int)} {p : Int} : st.2.length ≤ (stepSp H st p).2.length ∧ (stepSp H st p).2.length ≤ st.2.length + 1 := by
 unfold stepSp
 split
 ·simp only [setTo_len]
  split <;> simp
 ·simp
theorem spJ_len {H : Int → Bool} {fr : Int} {l : List (Int × Int)} {j : Nat} : l.length ≤ (spJ H fr l j).2.length ∧ (spJ H fr l j).2.length ≤ l.length + j := by
 induction j with
 | zero => simp [spJ]
 | succ j ih =>
  have := stepSp_len (H := H) (st := spJ H fr l j) (p := fr + j)
  rw [spJ]
  omega
theorem spJ_open {H : Int → Bool} {fr : Int} {l : List (Int × Int)} {j : Nat} (h : (spJ H fr l j).1 = true) : (spJ H fr l j).2 ≠ [] := by
 cases j with
 | zero => cases h
 | succ j =>
  rw [spJ] at h ⊢
  unfold stepSp at h ⊢
  split at h
  ·rename_i c
   rw [if_pos c]
   simp only
   split
   ·rename_i e
    intro hc
    have := spJ_open e
    have hl := congrArg List.length hc
    rw [setTo_len] at hl
    exact this (List.length_eq_zero_iff.1 hl)
   ·intro hc
    have hl := congrArg List.length hc
    rw [setTo_len] at hl
    simp at hl
  ·cases h
theorem spanP_in {bs : List Blk} {b : Nat} (h : b < bs.length) : 0 ≤ (spanP bs b).1 ∧ (spanP bs b).1 ≤ (spanP bs b).2 ∧ (spanP bs b).2 - (spanP bs b).1 ≤ 2 * ((sumTo bs (b + 1) : Int) - sumTo bs b) ∧ (spanP bs b).2 ≤ 2 * (sumTo bs (b + 1) : Int) ∧ (lenP bs b ≠ 0 → (spanP bs b).1 = 2 * (sumTo bs b : Int) ∧ (spanP bs b).2 = 2 * (sumTo bs (b + 1) : Int) - 1) := by
 have hm := sumTo_mono (bs := bs) (a := b) (b := b + 1) (by omega)
 have hl : lenP bs b = (sumTo bs (b + 1) : Int) - (sumTo bs b : Int) := by rw [lenP, if_pos (by omega)]; rfl
 unfold spanP
 split
 ·rename_i c
  simp only
  refine ⟨Int.le_refl _, Int.le_refl _, by omega, by omega, fun h => absurd c h⟩
 ·rename_i c
  have h0 : ofP bs b 0 = (sumTo bs b : Int) := by rw [ofP, if_neg (by omega)]; simp
  have h1 : ofP bs b (lenP bs b - 1) = (sumTo bs b : Int) + (lenP bs b - 1) := by rw [ofP, if_neg (by omega)]; simp
  simp only [aheadP]
  rw [h0, h1, if_neg (by omega), if_neg (by omega)]
  refine ⟨by omega, by omega, by omega, by omega, fun _ => ⟨by omega, by omega⟩⟩
theorem spB_len {H : Int → Bool} {bs : List Blk} {b : Nat} (h : b ≤ bs.length) : (spB H bs b).length ≤ 2 * sumTo bs b := by
 induction b with
 | zero => exact Nat.zero_le _
 | succ b ih =>
  have h1 := ih (by omega)
  have h2 := spanP_in (bs := bs) (b := b) (by omega)
  have h3 := (spJ_len (H := H) (fr := (spanP bs b).1) (l := spB H bs b) (j := ((spanP bs b).2 - (spanP bs b).1).toNat)).2
  rw [spB]
  omega
def spansL (f : Fnc) (u : List Int) (ins outs : List (List Bool)) (v : Int) : List (Int × Int) := if placeL u v < 0 then [] else spB (hasP f u outs v) f.blocks ins.length
theorem C16 (f : Fnc) (u : List Int) (ins outs : List (List Bool)) (v : Int) (h : LvOk f u ins outs) :
  Ctr Tryd.prog 16 [lvP f u ins outs, .int .i64 v] [] (ret [.sl ((spansL f u ins outs v).map encSp)]) := by
 have hpl := C40 f u ins outs v h.srt h.ul
 unfold spansL
 by_cases hc : placeL u v < 0
 ·rw [if_pos hc]
  generalize placeL u v = q at hpl hc
  have ⟨L, eL⟩ : ∃ L, lvP f u ins outs = .rp L := ⟨_, rfl⟩
  rw [eL] at hpl ⊢
  apply ctr_b A16_ok rfl (Nat.le_of_ble_eq_true rfl)
  unfold A16
  simp only [initL, Nat.reduceAdd]
  simp -implicitDefEqProofs (maxSteps := 2000000) (disch := omega) only [↓reduceIte, go_sem, Int.reduceToNat, Nat.reduceAdd, Nat.reduceLeDiff, Nat.reduceEqDiff, Nat.reduceSub, Nat.reduceMul, reduceCtorEq]
  refine callL hpl ?_
  simp -implicitDefEqProofs (maxSteps := 2000000) (disch := omega) only [↓reduceIte, go_sem, Int.reduceToNat, Nat.reduceAdd, Nat.reduceLeDiff, Nat.reduceEqDiff, Nat.reduceSub, Nat.reduceMul, reduceCtorEq]
  exact ⟨rfl, rfl⟩
 ·rw [if_neg hc]
  have hat := fun p hp => C32 f u ins outs p h hp
  have hsp := fun b => C42 f.blocks h.pt b
  have hil := h.il
  have hpln := h.pt.len
  have hsum := h.pt.sum
  have hH : ∀ p, hasP f u outs v p = true ∨ hasP f u outs v p = false := fun p => by cases hasP f u outs v p <;> simp
  have hcall : ∀ p, Ctr Tryd.prog 43 [optV u.length (atO f u outs p), .int .i64 (placeL u v)] [] (ret [.bool (hasP f u outs v p)]) := by
   intro p
   unfold hasP
   cases e : atO f u outs p with
   | none => exact C43_nil _
   | some s =>
    have hl := atO_len h e
    have := C43 s (placeL u v) (by have := h.ul; omega)
    rw [hl] at this
    exact this
  have hop : ∀ p, ∃ z, optV u.length (atO f u outs p) = z ∧ (z = .nilp ∨ ∃ c, z = .rp c) := fun p => by
   cases atO f u outs p with
   | none => exact ⟨_, rfl, Or.inl rfl⟩
   | some s => exact ⟨_, rfl, Or.inr ⟨_, rfl⟩⟩
  apply ctr_b A16_ok rfl (Nat.le_of_ble_eq_true rfl)
  unfold A16
  unfold lvP at hpl hat ⊢
  have ⟨PT, ePT⟩ : ∃ PT, ptP f.blocks = .rp PT := ⟨_, rfl⟩
  rw [ePT] at hpl hat hsp ⊢
  generalize hgH : hasP f u outs v = H at hcall hH ⊢
  generalize placeL u v = pl at hpl hc hcall
  simp only [initL, Nat.reduceAdd]
  simp -implicitDefEqProofs (maxSteps := 2000000) (disch := omega) only [↓reduceIte, go_sem, Int.reduceToNat, Nat.reduceAdd, Nat.reduceLeDiff, Nat.reduceEqDiff, Nat.reduceSub, Nat.reduceMul, reduceCtorEq]
  refine callL hpl ?_
  simp -implicitDefEqProofs (maxSteps := 2000000) (disch := omega) only [↓reduceIte, go_sem, Int.reduceToNat, Nat.reduceAdd, Nat.reduceLeDiff, Nat.reduceEqDiff, Nat.reduceSub, Nat.reduceMul, reduceCtorEq]
  refine loopL (σ := Nat) (fun b => ⟨[(0, .rp [.bool f.machine, .str f.name, .sl (f.regs.map encRg), .sl (f.params.map encO), .sl (f.blocks.map encBk), .rp PT, .sl (u.map encN), .sl (ins.map encSet), .sl (outs.map encSet)]), (1, .int .i64 v), (5, .hs 5 (spB H f.blocks b).length 0 (spB H f.blocks b).length), (23, .int .i64 (ins.length : Int)), (24, .int .i64 (b : Int))],
    [(5, .arr (spB H f.blocks b).length 2 ((spB H f.blocks b).map encSp))]⟩) (fun b => b ≤ ins.length) (fun b => ins.length - b) 0 (by simp -implicitDefEqProofs (maxSteps := 2000000) (disch := omega) only [↓reduceIte, go_sem, Int.reduceToNat, Nat.reduceAdd, Nat.reduceLeDiff, Nat.reduceEqDiff, Nat.reduceSub, Nat.reduceMul, reduceCtorEq]; rfl) (Nat.zero_le _) ?_
  intro b hb
  simp -implicitDefEqProofs (maxSteps := 2000000) (disch := omega) only [↓reduceIte, go_sem, Int.reduceToNat, Nat.reduceAdd, Nat.reduceLeDiff, Nat.reduceEqDiff, Nat.reduceSub, Nat.reduceMul, reduceCtorEq]
  refine ifD (fun c => ?_) (fun c => ?_)
  ·have hspb := hsp (b : Int)
   have hin := spanP_in (bs := f.blocks) (b := b) (by omega)
   have hlen := spB_len (H := H) (bs := f.blocks) (b := b) (by omega)
   have hmx := sumTo_max (bs := f.blocks) (b := b + 1)
   have hmx2 := sumTo_max (bs := f.blocks) (b := b)
   have hnx : spB H f.blocks (b + 1) = (spJ H (spanP f.blocks b).1 (spB H f.blocks b) ((spanP f.blocks b).2 - (spanP f.blocks b).1).toNat).2 := rfl
   generalize spB H f.blocks b = l at hlen hnx ⊢
   generalize (spanP f.blocks b).1 = fr at hspb hin hnx
   generalize (spanP f.blocks b).2 = to at hspb hin hnx
   simp -implicitDefEqProofs (maxSteps := 2000000) (disch := omega) only [↓reduceIte, go_sem, Int.reduceToNat, Nat.reduceAdd, Nat.reduceLeDiff, Nat.reduceEqDiff, Nat.reduceSub, Nat.reduceMul, reduceCtorEq]
   refine callL hspb ?_
   simp -implicitDefEqProofs (maxSteps := 2000000) (disch := omega) only [↓reduceIte, go_sem, Int.reduceToNat, Nat.reduceAdd, Nat.reduceLeDiff, Nat.reduceEqDiff, Nat.reduceSub, Nat.reduceMul, reduceCtorEq]
   refine loopL (σ := Nat) (fun j => ⟨[(0, .rp [.bool f.machine, .str f.name, .sl (f.regs.map encRg), .sl (f.params.map encO), .sl (f.blocks.map encBk), .rp PT, .sl (u.map encN), .sl (ins.map encSet), .sl (outs.map encSet)]), (1, .int .i64 v), (5, .hs 5 (spJ H fr l j).2.length 0 (spJ H fr l j).2.length), (8, .int .i64 to), (9, .bool (spJ H fr l j).1), (10, .int .i64 (fr + j)), (23, .int .i64 (ins.length : Int)), (24, .int .i64 (b : Int))],
    [(5, .arr (spJ H fr l j).2.length 2 ((spJ H fr l j).2.map encSp))]⟩) (fun j => j ≤ (to - fr).toNat) (fun j => (to - fr).toNat - j) 0 (by simp -implicitDefEqProofs (maxSteps := 2000000) (disch := omega) only [↓reduceIte, go_sem, Int.reduceToNat, Nat.reduceAdd, Nat.reduceLeDiff, Nat.reduceEqDiff, Nat.reduceSub, Nat.reduceMul, reduceCtorEq]; simp [spJ]) (Nat.zero_le _) ?_
   intro j hj
   have hjl := spJ_len (H := H) (fr := fr) (l := l) (j := j)
   have hjo := spJ_open (H := H) (fr := fr) (l := l) (j := j)
   have hjn : spJ H fr l (j + 1) = stepSp H (spJ H fr l j) (fr + j) := rfl
   generalize hst0 : spJ H fr l j = st at hjl hjo hjn ⊢
   simp -implicitDefEqProofs (maxSteps := 2000000) (disch := omega) only [↓reduceIte, go_sem, Int.reduceToNat, Nat.reduceAdd, Nat.reduceLeDiff, Nat.reduceEqDiff, Nat.reduceSub, Nat.reduceMul, reduceCtorEq]
   refine ifD (fun c2 => ?_) (fun c2 => ?_)
   ·have ⟨z, ez, hz⟩ := hop (fr + j)
    have hatp := hat (fr + j) (by omega)
    have hcp := hcall (fr + j)
    have hHp := hH (fr + j)
    rw [ez] at hatp hcp
    have hw1 : IntKind.i64.wrap (fr + (j : Int) + 1) = fr + ((j + 1 : Nat) : Int) := by rw [wrap64 (by omega) (by omega)]; omega
    have hcap : (((st.2.length + 1 : Nat) : Int)) * ((16 : Nat) : Int) ≤ 70368744177664 := by omega
    have hst : stepSp H st (fr + j) = if H (fr + j) = true then (true, setTo (if st.1 = true then st.2 else st.2 ++ [(fr + j, fr + j)]) (fr + j + 1)) else (false, st.2) := rfl
    rw [hst] at hjn
    generalize H (fr + j) = hb at hcp hjn
    rw [show fr + (j : Int) + 1 = fr + ((j + 1 : Nat) : Int) by omega] at hjn
    have hfin : ∀ l' : List (Int × Int), l' ≠ [] → ∃ m, l'.length = m + 1 ∧ (l'.map encSp)[m]? = some [.int .i64 (l'.getD m (0, 0)).1, .int .i64 (l'.getD m (0, 0)).2] ∧ (l'.map encSp).set m [.int .i64 (l'.getD m (0, 0)).1, .int .i64 (fr + ((j + 1 : Nat) : Int))] = (setTo l' (fr + ((j + 1 : Nat) : Int))).map encSp := fun l' hl' => by
     have hp0 := List.length_pos_iff.2 hl'
     refine ⟨l'.length - 1, by omega, ?_, ?_⟩
     ·rw [List.getElem?_map, List.getElem?_eq_getElem (by omega), List.getD_eq_getElem?_getD, List.getElem?_eq_getElem (by omega)]
      rfl
     ·rw [setTo, List.map_set]
      rfl
    rcases hz with hz | ⟨c0, hz⟩
    ·rw [hz] at hatp hcp
     simp -implicitDefEqProofs (maxSteps := 2000000) (disch := omega) only [↓reduceIte, go_sem, Int.reduceToNat, Nat.reduceAdd, Nat.reduceLeDiff, Nat.reduceEqDiff, Nat.reduceSub, Nat.reduceMul, reduceCtorEq]
     refine callL hatp ?_
     simp -implicitDefEqProofs (maxSteps := 2000000) (disch := omega) only [↓reduceIte, go_sem, Int.reduceToNat, Nat.reduceAdd, Nat.reduceLeDiff, Nat.reduceEqDiff, Nat.reduceSub, Nat.reduceMul, reduceCtorEq]
     refine callL hpl ?_
     simp -implicitDefEqProofs (maxSteps := 2000000) (disch := omega) only [↓reduceIte, go_sem, Int.reduceToNat, Nat.reduceAdd, Nat.reduceLeDiff, Nat.reduceEqDiff, Nat.reduceSub, Nat.reduceMul, reduceCtorEq]
     refine callL hcp ?_
     simp -implicitDefEqProofs (maxSteps := 2000000) (disch := omega) only [↓reduceIte, go_sem, Int.reduceToNat, Nat.reduceAdd, Nat.reduceLeDiff, Nat.reduceEqDiff, Nat.reduceSub, Nat.reduceMul, reduceCtorEq]
     refine ifB (fun e5 => ?_) (fun e5 => ?_)
     ·simp -implicitDefEqProofs (maxSteps := 2000000) (disch := omega) only [↓reduceIte, go_sem, Int.reduceToNat, Nat.reduceAdd, Nat.reduceLeDiff, Nat.reduceEqDiff, Nat.reduceSub, Nat.reduceMul, reduceCtorEq]
      refine ifB (fun e6 => ?_) (fun e6 => ?_)
      ·have ⟨m, m1, m2, m3⟩ := hfin st.2 (hjo e6)
       have hjn2 : spJ H fr l (j + 1) = (true, setTo st.2 (fr + ((j + 1 : Nat) : Int))) := by rw [hjn, if_pos e5, if_pos e6]
       have i1 : ((m + 1 : Nat) : Int) - 1 = (m : Int) := by omega
       have hsl : (setTo st.2 (fr + ((j + 1 : Nat) : Int))).length = m + 1 := by rw [setTo_len, m1]
       simp -implicitDefEqProofs (maxSteps := 2000000) (disch := omega) only [↓reduceIte, go_sem, Int.reduceToNat, Nat.reduceAdd, Nat.reduceLeDiff, Nat.reduceEqDiff, Nat.reduceSub, Nat.reduceMul, reduceCtorEq, m1, i1, m2, m3, hw1]
       refine ⟨j + 1, ?_, by omega, by omega⟩
       rw [hjn2]
       simp only [hsl, e6]
      ·have ⟨m, m1, m2, m3⟩ := hfin (st.2 ++ [(fr + j, fr + j)]) (by simp)
       have hjn2 : spJ H fr l (j + 1) = (true, setTo (st.2 ++ [(fr + j, fr + j)]) (fr + ((j + 1 : Nat) : Int))) := by rw [hjn, if_pos e5, if_neg (by simp [e6])]
       have happ : st.2.map encSp ++ [[.int .i64 (fr + j), .int .i64 (fr + j)]] = (st.2 ++ [(fr + j, fr + j)]).map encSp := by simp [encSp]
       have hsl : (setTo (st.2 ++ [(fr + j, fr + j)]) (fr + ((j + 1 : Nat) : Int))).length = m + 1 := by rw [setTo_len, m1]
       have i0 : st.2.length = m := by simp at m1; exact m1
       have i1 : ((m + 1 : Nat) : Int) - 1 = (m : Int) := by omega
       generalize st.2 ++ [(fr + j, fr + j)] = l' at m1 m2 m3 hjn2 happ hsl
       simp -implicitDefEqProofs (maxSteps := 2000000) (disch := omega) only [↓reduceIte, go_sem, Int.reduceToNat, Nat.reduceAdd, Nat.reduceLeDiff, Nat.reduceEqDiff, Nat.reduceSub, Nat.reduceMul, reduceCtorEq, hcap, i0, i1, happ, m1, m2, m3, hw1]
       refine ⟨j + 1, ?_, by omega, by omega⟩
       rw [hjn2]
       simp only [hsl]
     ·have hjn2 : spJ H fr l (j + 1) = (false, st.2) := by rw [hjn, if_neg (by simp [e5])]
      simp -implicitDefEqProofs (maxSteps := 2000000) (disch := omega) only [↓reduceIte, go_sem, Int.reduceToNat, Nat.reduceAdd, Nat.reduceLeDiff, Nat.reduceEqDiff, Nat.reduceSub, Nat.reduceMul, reduceCtorEq, hw1]
      refine ⟨j + 1, ?_, by omega, by omega⟩
      rw [hjn2]
    ·rw [hz] at hatp hcp
     simp -implicitDefEqProofs (maxSteps := 2000000) (disch := omega) only [↓reduceIte, go_sem, Int.reduceToNat, Nat.reduceAdd, Nat.reduceLeDiff, Nat.reduceEqDiff, Nat.reduceSub, Nat.reduceMul, reduceCtorEq]
     refine callL hatp ?_
     simp -implicitDefEqProofs (maxSteps := 2000000) (disch := omega) only [↓reduceIte, go_sem, Int.reduceToNat, Nat.reduceAdd, Nat.reduceLeDiff, Nat.reduceEqDiff, Nat.reduceSub, Nat.reduceMul, reduceCtorEq]
     refine callL hpl ?_
     simp -implicitDefEqProofs (maxSteps := 2000000) (disch := omega) only [↓reduceIte, go_sem, Int.reduceToNat, Nat.reduceAdd, Nat.reduceLeDiff, Nat.reduceEqDiff, Nat.reduceSub, Nat.reduceMul, reduceCtorEq]
     refine callL hcp ?_
     simp -implicitDefEqProofs (maxSteps := 2000000) (disch := omega) only [↓reduceIte, go_sem, Int.reduceToNat, Nat.reduceAdd, Nat.reduceLeDiff, Nat.reduceEqDiff, Nat.reduceSub, Nat.reduceMul, reduceCtorEq]
     refine ifB (fun e5 => ?_) (fun e5 => ?_)
     ·simp -implicitDefEqProofs (maxSteps := 2000000) (disch := omega) only [↓reduceIte, go_sem, Int.reduceToNat, Nat.reduceAdd, Nat.reduceLeDiff, Nat.reduceEqDiff, Nat.reduceSub, Nat.reduceMul, reduceCtorEq]
      refine ifB (fun e6 => ?_) (fun e6 => ?_)
      ·have ⟨m, m1, m2, m3⟩ := hfin st.2 (hjo e6)
       have hjn2 : spJ H fr l (j + 1) = (true, setTo st.2 (fr + ((j + 1 : Nat) : Int))) := by rw [hjn, if_pos e5, if_pos e6]
       have i1 : ((m + 1 : Nat) : Int) - 1 = (m : Int) := by omega
       have hsl : (setTo st.2 (fr + ((j + 1 : Nat) : Int))).length = m + 1 := by rw [setTo_len, m1]
       simp -implicitDefEqProofs (maxSteps := 2000000) (disch := omega) only [↓reduceIte, go_sem, Int.reduceToNat, Nat.reduceAdd, Nat.reduceLeDiff, Nat.reduceEqDiff, Nat.reduceSub, Nat.reduceMul, reduceCtorEq, m1, i1, m2, m3, hw1]
       refine ⟨j + 1, ?_, by omega, by omega⟩
       rw [hjn2]
       simp only [hsl, e6]
      ·have ⟨m, m1, m2, m3⟩ := hfin (st.2 ++ [(fr + j, fr + j)]) (by simp)
       have hjn2 : spJ H fr l (j + 1) = (true, setTo (st.2 ++ [(fr + j, fr + j)]) (fr + ((j + 1 : Nat) : Int))) := by rw [hjn, if_pos e5, if_neg (by simp [e6])]
       have happ : st.2.map encSp ++ [[.int .i64 (fr + j), .int .i64 (fr + j)]] = (st.2 ++ [(fr + j, fr + j)]).map encSp := by simp [encSp]
       have hsl : (setTo (st.2 ++ [(fr + j, fr + j)]) (fr + ((j + 1 : Nat) : Int))).length = m + 1 := by rw [setTo_len, m1]
       have i0 : st.2.length = m := by simp at m1; exact m1
       have i1 : ((m + 1 : Nat) : Int) - 1 = (m : Int) := by omega
       generalize st.2 ++ [(fr + j, fr + j)] = l' at m1 m2 m3 hjn2 happ hsl
       simp -implicitDefEqProofs (maxSteps := 2000000) (disch := omega) only [↓reduceIte, go_sem, Int.reduceToNat, Nat.reduceAdd, Nat.reduceLeDiff, Nat.reduceEqDiff, Nat.reduceSub, Nat.reduceMul, reduceCtorEq, hcap, i0, i1, happ, m1, m2, m3, hw1]
       refine ⟨j + 1, ?_, by omega, by omega⟩
       rw [hjn2]
       simp only [hsl]
     ·have hjn2 : spJ H fr l (j + 1) = (false, st.2) := by rw [hjn, if_neg (by simp [e5])]
      simp -implicitDefEqProofs (maxSteps := 2000000) (disch := omega) only [↓reduceIte, go_sem, Int.reduceToNat, Nat.reduceAdd, Nat.reduceLeDiff, Nat.reduceEqDiff, Nat.reduceSub, Nat.reduceMul, reduceCtorEq, hw1]
      refine ⟨j + 1, ?_, by omega, by omega⟩
      rw [hjn2]
   ·simp -implicitDefEqProofs (maxSteps := 2000000) (disch := omega) only [↓reduceIte, go_sem, Int.reduceToNat, Nat.reduceAdd, Nat.reduceLeDiff, Nat.reduceEqDiff, Nat.reduceSub, Nat.reduceMul, reduceCtorEq]
    refine ⟨b + 1, ?_, by omega, by omega⟩
    rw [hnx, ← show j = (to - fr).toNat by omega, hst0]
    simp
  ·simp -implicitDefEqProofs (maxSteps := 2000000) (disch := omega) only [↓reduceIte, go_sem, Int.reduceToNat, Nat.reduceAdd, Nat.reduceLeDiff, Nat.reduceEqDiff, Nat.reduceSub, Nat.reduceMul, reduceCtorEq]
   have htk : ((spB H f.blocks ins.length).map encSp).take (spB H f.blocks ins.length).length = (spB H f.blocks ins.length).map encSp := List.take_of_length_le (by simp)
   rw [show b = ins.length by omega]
   exact ⟨rfl, rfl⟩
/- The most values of a class that are present at once. -/
def cntL (f : Fnc) (c : Int) (l : List Int) : Nat := (l.filter fun v => (clsO f.regs v).getD 0 == c).length
def mostTo (f : Fnc) (u : List Int) (outs : List (List Bool)) (c : Int) : Nat → Nat
 | 0 => 0
 | k + 1 => max (mostTo f u outs c k) (cntL f c (presL f u outs (k : Int)))
def mostL (f : Fnc) (u : List Int) (outs : List (List Bool)) (c : Int) : Nat := mostTo f u outs c (2 * sumTo f.blocks f.blocks.length)
theorem cntL_succ {f : Fnc} {c : Int} {l : List Int} {k : Nat} {x : Int} (h : l[k]? = some x) : cntL f c (l.take (k + 1)) = if (clsO f.regs x).getD 0 = c then cntL f c (l.take k) + 1 else cntL f c (l.take k) := by
 unfold cntL
 rw [List.take_add_one, h, Option.toList_some, List.filter_append, List.length_append]
 by_cases e : (clsO f.regs x).getD 0 = c
 ·simp [e]
 ·simp [e]
theorem cntL_le {f : Fnc} {c : Int} {l : List Int} {k : Nat} : cntL f c (l.take k) ≤ l.length := by
 unfold cntL
 have h1 := List.length_filter_le (fun v => (clsO f.regs v).getD 0 == c) (l.take k)
 have h2 := List.length_take_le' (i := k) (l := l)
 omega
theorem mostTo_le {f : Fnc} {u : List Int} {ins outs : List (List Bool)} (h : LvOk f u ins outs) {c : Int} {k : Nat} : mostTo f u outs c k ≤ u.length := by
 induction k with
 | zero => exact Nat.zero_le _
 | succ k ih =>
  rw [mostTo]
  have h1 := presL_le h (p := (k : Int))
  have h2 := cntL_le (f := f) (c := c) (l := presL f u outs k) (k := (presL f u outs k).length)
  rw [List.take_length] at h2
  omega
theorem C19 (f : Fnc) (u : List Int) (ins outs : List (List Bool)) (c : Int) (h : LvOk f u ins outs) (hr : f.regs.length < 1000000) :
  Ctr Tryd.prog 19 [lvP f u ins outs, .int .i64 c] [] (ret [.int .i64 (mostL f u outs c : Int)]) := by
 have hcn := C44 f.blocks (by have := h.pt.len; omega)
 have hpr := fun p hp => C9 f u ins outs p h hp
 have hcl := fun v => C45 f v hr
 have hle := fun p => presL_le h (p := p)
 have hml := fun k => mostTo_le h (c := c) (k := k)
 have hul := h.ul
 have hsum := h.pt.sum
 apply ctr_b A19_ok rfl (Nat.le_of_ble_eq_true rfl)
 unfold A19
 unfold lvP at hpr ⊢
 unfold encFn at hcl
 have ⟨PT, ePT⟩ : ∃ PT, ptP f.blocks = .rp PT := ⟨_, rfl⟩
 rw [ePT] at hcn hpr ⊢
 simp only [initL, Nat.reduceAdd]
 unfold mostL
 generalize hT : sumTo f.blocks f.blocks.length = T at hcn hsum ⊢
 have hw0 : IntKind.i64.wrap (2 * (T : Int)) = ((2 * T : Nat) : Int) := by rw [wrap64 (by omega) (by omega)]; omega
 simp -implicitDefEqProofs (maxSteps := 2000000) (disch := omega) only [↓reduceIte, go_sem, Int.reduceToNat, Nat.reduceAdd, Nat.reduceLeDiff, Nat.reduceEqDiff, Nat.reduceSub, Nat.reduceMul, reduceCtorEq]
 refine callL hcn ?_
 simp -implicitDefEqProofs (maxSteps := 2000000) (disch := omega) only [↓reduceIte, go_sem, Int.reduceToNat, Nat.reduceAdd, Nat.reduceLeDiff, Nat.reduceEqDiff, Nat.reduceSub, Nat.reduceMul, reduceCtorEq, hw0]
 refine loopL (σ := Nat) (fun k => ⟨[(0, .rp [.bool f.machine, .str f.name, .sl (f.regs.map encRg), .sl (f.params.map encO), .sl (f.blocks.map encBk), .rp PT, .sl (u.map encN), .sl (ins.map encSet), .sl (outs.map encSet)]), (1, .int .i64 c), (5, .int .i64 (mostTo f u outs c k : Int)), (19, .int .i64 ((2 * T : Nat) : Int)), (20, .int .i64 (k : Int))], []⟩)
  (fun k => k ≤ 2 * T) (fun k => 2 * T - k) 0 (by simp -implicitDefEqProofs (maxSteps := 2000000) (disch := omega) only [↓reduceIte, go_sem, Int.reduceToNat, Nat.reduceAdd, Nat.reduceLeDiff, Nat.reduceEqDiff, Nat.reduceSub, Nat.reduceMul, reduceCtorEq]; simp [mostTo]) (Nat.zero_le _) ?_
 intro k hk
 have hnx : mostTo f u outs c (k + 1) = max (mostTo f u outs c k) (cntL f c (presL f u outs (k : Int))) := rfl
 have hlk := hle (k : Int)
 have hmk := hml k
 simp -implicitDefEqProofs (maxSteps := 2000000) (disch := omega) only [↓reduceIte, go_sem, Int.reduceToNat, Nat.reduceAdd, Nat.reduceLeDiff, Nat.reduceEqDiff, Nat.reduceSub, Nat.reduceMul, reduceCtorEq]
 refine ifD (fun c1 => ?_) (fun c1 => ?_)
 ·have hp1 := hpr (k : Int) (by omega)
  generalize presL f u outs (k : Int) = l at hp1 hnx hlk
  simp -implicitDefEqProofs (maxSteps := 2000000) (disch := omega) only [↓reduceIte, go_sem, Int.reduceToNat, Nat.reduceAdd, Nat.reduceLeDiff, Nat.reduceEqDiff, Nat.reduceSub, Nat.reduceMul, reduceCtorEq]
  refine callL hp1 ?_
  simp -implicitDefEqProofs (maxSteps := 2000000) (disch := omega) only [↓reduceIte, go_sem, Int.reduceToNat, Nat.reduceAdd, Nat.reduceLeDiff, Nat.reduceEqDiff, Nat.reduceSub, Nat.reduceMul, reduceCtorEq]
  refine loopL (σ := Nat) (fun j => ⟨[(0, .rp [.bool f.machine, .str f.name, .sl (f.regs.map encRg), .sl (f.params.map encO), .sl (f.blocks.map encBk), .rp PT, .sl (u.map encN), .sl (ins.map encSet), .sl (outs.map encSet)]), (1, .int .i64 c), (5, .int .i64 (mostTo f u outs c k : Int)), (7, .int .i64 (cntL f c (l.take j) : Int)), (19, .int .i64 ((2 * T : Nat) : Int)), (20, .int .i64 (k : Int)), (25, .sl (l.map encN)), (26, .int .i64 (l.length : Int)), (27, .int .i64 (j : Int))], []⟩)
   (fun j => j ≤ l.length) (fun j => l.length - j) 0 (by simp -implicitDefEqProofs (maxSteps := 2000000) (disch := omega) only [↓reduceIte, go_sem, Int.reduceToNat, Nat.reduceAdd, Nat.reduceLeDiff, Nat.reduceEqDiff, Nat.reduceSub, Nat.reduceMul, reduceCtorEq]; simp [cntL]) (Nat.zero_le _) ?_
  intro j hj
  simp -implicitDefEqProofs (maxSteps := 2000000) (disch := omega) only [↓reduceIte, go_sem, Int.reduceToNat, Nat.reduceAdd, Nat.reduceLeDiff, Nat.reduceEqDiff, Nat.reduceSub, Nat.reduceMul, reduceCtorEq]
  refine ifD (fun c2 => ?_) (fun c2 => ?_)
  ·have hx := List.getElem?_eq_getElem (l := l) (i := j) (by omega)
   generalize l[j] = x at hx
   have hcx := hcl x
   have hcs := cntL_succ (f := f) (c := c) hx
   have hcle := cntL_le (f := f) (c := c) (l := l) (k := j)
   generalize clsO f.regs x = z at hcx hcs
   simp -implicitDefEqProofs (maxSteps := 2000000) (disch := omega) only [↓reduceIte, go_sem, Int.reduceToNat, Nat.reduceAdd, Nat.reduceLeDiff, Nat.reduceEqDiff, Nat.reduceSub, Nat.reduceMul, reduceCtorEq, hx, encN]
   refine callL hcx ?_
   simp -implicitDefEqProofs (maxSteps := 2000000) (disch := omega) only [↓reduceIte, go_sem, Int.reduceToNat, Nat.reduceAdd, Nat.reduceLeDiff, Nat.reduceEqDiff, Nat.reduceSub, Nat.reduceMul, reduceCtorEq]
   refine ifE (fun e => ?_) (fun e => ?_)
   ·rw [if_pos e] at hcs
    simp -implicitDefEqProofs (maxSteps := 2000000) (disch := omega) only [↓reduceIte, go_sem, Int.reduceToNat, Nat.reduceAdd, Nat.reduceLeDiff, Nat.reduceEqDiff, Nat.reduceSub, Nat.reduceMul, reduceCtorEq]
    refine ⟨j + 1, ?_, by omega, by omega⟩
    rw [hcs]
    simp
   ·rw [if_neg e] at hcs
    simp -implicitDefEqProofs (maxSteps := 2000000) (disch := omega) only [↓reduceIte, go_sem, Int.reduceToNat, Nat.reduceAdd, Nat.reduceLeDiff, Nat.reduceEqDiff, Nat.reduceSub, Nat.reduceMul, reduceCtorEq]
    refine ⟨j + 1, ?_, by omega, by omega⟩
    rw [hcs]
    simp
  ·have hjl : j = l.length := by omega
   simp -implicitDefEqProofs (maxSteps := 2000000) (disch := omega) only [↓reduceIte, go_sem, Int.reduceToNat, Nat.reduceAdd, Nat.reduceLeDiff, Nat.reduceEqDiff, Nat.reduceSub, Nat.reduceMul, reduceCtorEq]
   refine ⟨k + 1, ?_, by omega, by omega⟩
   have hmx : (if (cntL f c (l.take j) : Int) > (mostTo f u outs c k : Int) then (cntL f c (l.take j) : Int) else (mostTo f u outs c k : Int)) = ((mostTo f u outs c (k + 1) : Nat) : Int) := by
    rw [hnx, hjl, List.take_length]
    split <;> omega
   rw [hmx]
   simp
 ·rw [show k = 2 * T by omega]
  simp -implicitDefEqProofs (maxSteps := 2000000) (disch := omega) only [↓reduceIte, go_sem, Int.reduceToNat, Nat.reduceAdd, Nat.reduceLeDiff, Nat.reduceEqDiff, Nat.reduceSub, Nat.reduceMul, reduceCtorEq]
  exact ⟨rfl, rfl⟩
end Go.Proofs.YtgbmneoeggdaoaaDoor.X
