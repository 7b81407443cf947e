/- Part of a proof: what functions of the program do. -/
import Derived.Test.YtgbmneoeggdaoaaDoorXc
import Derived.Test.YtgbmneoeggdaoaaDoorXam5
import Derived.RangeFuncBox
import Derived.RangeFuncLeaves
import Derived.Shelf.Abstract
import Derived.WalkKit
import Derived.OwnWalkIn
import Derived.TacticsInMore
import Derived.LoopNIn
import Derived.LoopIn
namespace Go.Proofs.YtgbmneoeggdaoaaDoor.X
section
open Go Go.AM Go.Proofs Go.RowKit
open Go.Shelf Go.Proofs.YtgbmneoeggdaoaaDoor
open Go.Bits
set_option linter.unusedVariables false
set_option linter.unusedSimpArgs false
attribute [local go_sem] Oper.semAt_some
def fromW (ws : Nat → Nat) (m k : Nat) : List Nat := (List.range' k (m - k)).flatMap fun k => (onesW (ws k)).map (64 * k + ·)
theorem fromW_end (ws : Nat → Nat) (m : Nat) : fromW ws m m = [] := by simp [fromW]
theorem fromW_succ (ws : Nat → Nat) {m k : Nat} (h : k < m) : fromW ws m k = (onesW (ws k)).map (64 * k + ·) ++ fromW ws m (k + 1) := by
 unfold fromW
 rw [show m - k = (m - (k + 1)) + 1 by omega, List.range'_succ, List.flatMap_cons]
set_option maxRecDepth 100000 in
set_option maxHeartbeats 2000000 in
theorem walk_core (l Bs bo b off m cap : Nat) (sa : Option Addr) (ha : 0 < m → sa = some ⟨b, off, none⟩) (ws : Nat → Nat) (hm : m < 1000000000) (hw : ∀ k, ws k < 2 ^ 64) (T : List Nat) (hT : T = fromW ws m 0) (J : Nat → World → Prop) (Jx : World → Prop)
  (hI : ∀ k W W', J k W → Idle W W' → J k W')
  (hV : ∀ k W, J k W → W.cell? ⟨Bs, bo + 1, none⟩ = some (.slice sa m cap) ∧ ∀ j, j < m → W.cell? ⟨b, off + j, none⟩ = some (.int .u64 (ws j : Int)))
  (hZ : ∀ k W (w : Nat), J k W → w ≠ 0 → w < 2 ^ 64 → CallsIn Fence.wide 0 Tryd.prog 100 #[.int .u64 (w : Int)] W fun e W' => e = .returned (.int .i64 (tz w : Int)) ∧ Idle W W')
  (hY : ∀ k (x : Nat) W, T[k]? = some x → J k W → YieldAt Fence.wide 0 Tryd.prog l #[.int .i64 (x : Int)] W fun e W' => (e = .returned (.bool true) ∧ J (k + 1) W') ∨ (e = .returned (.bool false) ∧ Jx W'))
  (W : World) (h0 : J 0 W) :
  CallsIn Fence.wide 0 Tryd.prog 91 #[.pointer (some ⟨Bs, bo, none⟩), .func (.yield l) #[] #[]] W fun e W' => (∃ v, e = .returned v) ∧ (J T.length W' ∨ Jx W') := by
 refine callsIn_of_wp Tryd.func91 rfl trivial ?_ rfl
 simp only [Tryd.ntmps91, List.size_toArray, List.length_cons, List.length_nil, Nat.reduceAdd, Nat.reduceSub, Array.replicate_succ, Array.replicate_zero, List.push_toArray, List.append_toArray, List.nil_append, List.cons_append]
 obtain ⟨hbs, hcs⟩ := hV 0 W h0
 gi_wp2
 gi_loopw [11] (fun i wr => ∃ k j : Nat, k ≤ m ∧ i = .int .i64 k ∧ J j wr ∧ j ≤ T.length ∧ T.drop j = fromW ws m k)
  (fun i _ => m - (intOf i).toNat)
 case atStart => exact ⟨0, 0, Nat.zero_le _, rfl, h0, Nat.zero_le _, hT⟩
 case round =>
  obtain ⟨k, j, hk, rfl, hJs, hj, hd⟩ := hrel
  by_cases hlt : k < m
  ·obtain rfl := ha (by omega)
   obtain ⟨hb2, hc2⟩ := hV j wr hJs
   have c0 := hc2 k hlt
   rw [fromW_succ ws hlt] at hd
   gi_wp2
   gi_loopw [5] (fun i wr => ∃ w j : Nat, i = .int .u64 (w : Int) ∧ w < 2 ^ 64 ∧ J j wr ∧ j ≤ T.length ∧ T.drop j = (onesW w).map (64 * k + ·) ++ fromW ws m (k + 1))
    (fun i _ => (intOf i).toNat)
   case atStart => exact ⟨ws k, j, rfl, hw k, hJs, hj, hd⟩
   case round =>
    obtain ⟨w, j2, rfl, hwl, hJ2, hj2, hd2⟩ := hrel
    by_cases hz : w = 0
    ·subst hz
     rw [onesW_zero] at hd2
     gi_wp2
     refine ⟨⟨k + 1, j2, by omega, by simp, hJ2, hj2, hd2⟩, ?_⟩
     simp [intOf]
     omega
    ·have hne : ((w : Int) != 0) = true := by simp [hz]
     have hcall := hZ j2 _ w hJ2 hz hwl
     rw [onesW_cons w hz hwl] at hd2
     gi_wp2
     refine ⟨trivial, rfl, hcall.mono ?_⟩
     rintro e W2 ⟨rfl, hidle⟩
     have hJ3 := hI j2 _ _ hJ2 hidle
     have hT2 : T[j2]? = some (64 * k + tz w) := by
      have := congrArg (·[0]?) hd2
      simpa using this
     have hjl := (List.getElem?_eq_some_iff.1 hT2).1
     have hd3 : T.drop (j2 + 1) = (onesW (w &&& (w - 1))).map (64 * k + ·) ++ fromW ws m (k + 1) := by
      rw [← List.drop_drop, hd2]
      rfl
     have hY2 := hY j2 _ W2 hT2 hJ3
     have htz : tz w < 64 := (tz_spec 64 w hz hwl).1
     rw [show ((64 * k + tz w : Nat) : Int) = (k : Int) * 64 + (tz w : Int) by omega] at hY2
     obtain ⟨fn, tmps, assign, body, hy, hR⟩ := hY2
     have hlw := andlt w hz
     gi_wp2
     refine ⟨rfl, hR.mono ?_⟩
     rintro e W3 (⟨rfl, hJ4⟩ | ⟨rfl, hJx⟩)
     ·gi_wp2
      have hband := bits_and_u64_nat w (w - 1) (by omega) (by omega)
      rw [show ((w - 1 : Nat) : Int) = (w : Int) - 1 by omega] at hband
      rw [hband]
      refine ⟨⟨w &&& (w - 1), j2 + 1, rfl, by omega, hJ4, hjl, hd3⟩, ?_⟩
      simp only [intOf, Int.toNat_natCast]
      exact hlw
     ·gi_wp2
      refine bodyPost_ret (results_none rfl _ _ _) rfl ?_
      exact ⟨⟨_, rfl⟩, .inr hJx⟩
  ·obtain rfl : k = m := by omega
   rw [fromW_end] at hd
   have hjl : j = T.length := by
    have := congrArg List.length hd
    simp at this
    omega
   subst hjl
   gi_wp2
   go_end0
   exact ⟨⟨_, rfl⟩, .inl hJs⟩
theorem ctr_int {P : Program} {f : Nat} {args : List AV} {vs : List Value} {W : World} {k : IntKind} {n : Int} (h : Ctr P f args [] (ret [.int k n])) (hr : RepPL (fun b o => W.cell? ⟨b, o, none⟩) args vs) (hg : Glob (fun b o => W.cell? ⟨b, o, none⟩)) :
  CallsIn Fence.wide 0 P f vs.toArray W fun e W' => e = .returned (.int k n) ∧ Idle W W' := by
 obtain ⟨_, h⟩ := h
 let V : View := fun b o => W.cell? ⟨b, o, none⟩
 let G : Ctx := fun _ => none
 have hs : Sat W V G.owns V G W (fun k => ([] : List Ob)[k]?) := {
  keep := ⟨rfl, rfl, rfl, Nat.le_refl _, fun _ _ _ => rfl⟩
  view := fun b o v h => h
  vle := V.le_refl
  vnew := fun _ _ _ => rfl
  obs := fun k ob e => by simp at e
  dom := fun k s e => by cases e
  priv := fun k s b e => by cases e
  inj := fun k k' s s' b e => by cases e
  loc := fun k s b e => by cases e
  glob := hg }
 refine callsIn_wide.2 ((h V G W vs hs (RepPL.rep G hr)).mono fun e W' hh => ?_)
 obtain ⟨V', G', v, res, obs', ⟨rfl, rfl⟩, rfl, hv, _, hs'⟩ := hh
 refine ⟨?_, ?_⟩
 ·have : v = .int k n := by simpa only [RepRes, Rep, RepP] using hv
  rw [this]
 ·obtain ⟨k1, k2, k3, k4, k5⟩ := hs'.keep
  refine ⟨k1, k2, k3, k4, fun b o e hb => ?_⟩
  rw [k5 b (Array.getElem?_eq_some_iff.1 e).1 (by rintro ⟨k, s, e, _⟩; cases e)]
  exact e
theorem ones_from {n : Nat} {bs : List Bool} (h : bs.length = n) : ones bs = fromW (wordAt bs) (nw n) 0 := by
 rw [ones_words, h, List.range_eq_range']
 rfl
def onesZ (bs : List Bool) : List (List AV) := (ones bs).map fun (i : Nat) => encZ (i : Int)
theorem I91 {n : Nat} {bs : List Bool} (h : bs.length = n) (hn : n < 1000000000) : IterM Tryd.prog 91 [.rp [.int .i64 (n : Int), .sl (encWs bs)]] (onesZ bs) := by
 unfold onesZ
 refine ⟨by kernel_rfl, fun V pvs cvs hg hp hc => ?_⟩
 have hlen : (encWs bs).length = nw n := by rw [encWs_len, h]
 simp only [RepPL, RepP, RepC] at hp hc
 subst hc
 obtain ⟨v, r, rfl, ⟨b0, o0, rfl, ⟨⟨u0, hu0, rfl, _⟩, ⟨u, hu, ⟨a, cap, rfl, hcap, hx⟩, _⟩, _⟩⟩, rfl⟩ := hp
 rw [hlen] at hu hcap
 refine ⟨(ones bs).map fun (i : Nat) => #[.int .i64 (i : Int)], by simp, fun k x v hk hv => ?_, ?_⟩
 ·obtain ⟨i, hi, rfl⟩ : ∃ i : Nat, (ones bs)[k]? = some i ∧ encZ (i : Int) = x := by simpa using hk
  have : #[Value.int .i64 (i : Int)] = v := by simpa [hi] using hv
  subst this
  simp only [RepPL, RepP, encZ]
  exact ⟨_, _, rfl, rfl, rfl⟩
 ·intro W lw J Jx hI1 hI2 hV hY h0
  rw [List.length_map]
  obtain ⟨b, off, hab⟩ : ∃ b off, (0 < nw n → a = some ⟨b, off, none⟩ ∧ ∀ j, j < nw n → V b (off + j) = some (.int .u64 (wordAt bs j : Int))) := by
   by_cases hz : 0 < nw n
   ·rcases hx with hx | ⟨b, off, esz, rfl, hr⟩
    ·rw [← hlen, hx] at hz
     simp at hz
    ·have hne : (encWs bs) ≠ [] := fun e => by rw [← hlen, e] at hz; simp at hz
     have he : esz = 1 := hr.esz_of (n := 1) (fun c hc => by obtain ⟨s, _, rfl⟩ := List.mem_map.1 hc; rfl) hne
     subst he
     refine ⟨b, off, fun _ => ⟨rfl, fun j hj => ?_⟩⟩
     obtain ⟨_, hc⟩ := hr.get (i := j) (encWs_get bs (by rw [h]; exact hj))
     simp only [RepC, RepP] at hc
     obtain ⟨⟨v0, g0, rfl, _⟩, _⟩ := hc
     rw [Nat.mul_one] at g0
     exact g0
   ·exact ⟨0, 0, fun h => absurd h hz⟩
  have := walk_core lw b0 o0 b off (nw n) cap a (fun hz => (hab hz).1) (wordAt bs) (by unfold nw; omega) (fun k => chunk_lt bs k) (ones bs) (ones_from h) J Jx hI1
   (fun k W hJ => ⟨hV k W hJ _ _ _ hu, fun j hj => hV k W hJ _ _ _ ((hab (by omega)).2 j hj)⟩)
   (fun k W w hJ hw0 hwl => ?_) (fun k x W hx hJ => ?_) W h0
  ·simpa using this
  ·have hc := C100 w hwl
   rw [if_neg hw0] at hc
   exact ctr_int (vs := [.int .u64 (w : Int)]) hc (by simp only [RepPL, RepP]; exact ⟨_, _, rfl, rfl, rfl⟩) (hg.mono (fun b o v e => hV k W hJ b o v e))
  ·exact hY k _ W (by rw [List.getElem?_map, hx]; rfl) hJ
end
section
open Go Go.AM Go.Proofs
attribute [local go_sem ↓] w_skip w_lbl w_ops w_draw w_pre w_post w_alt w_seq w_cond w_block w_join w_loop w_exit w_ret w_scope w_rfunc l_nil l_cons th_n th_e th_r bk_n bk_r bk_e t_nil t_it t_call t_callg i_nil i_one i_grp s_nil s_cons c_call c_callg e_rar e_dynB e_mv e_nil e_dyn e_nilb e_frz o_mov o_bin o_eq o_un o_conv o_len o_slen o_idx o_aix o_fad o_load o_store o_boxp o_boxo o_boxm o_alloc o_allocm o_alloca o_nilarr o_build o_bslp o_bslo o_slc o_sslc o_slc3 o_sidx o_mkfn o_mkmv o_calle o_bslr o_ridx o_rload o_rapp o_vidx o_ext o_pick o_callf o_callb o_appd o_clear o_mxn o_field o_nilc o_make o_makeb o_buildm o_boxg o_mkif o_tass o_eqs o_callo o_callx k_int k_str k_bool k_grb k_grt k_some k_none k_rar k_arr k_lens k_lenf k_lenh k_lenb k_idxb k_idxs k_idxf k_idxh k_ld k_loadp k_loadr k_loade k_storer k_storee k_oin k_ois k_slcs k_slcf k_slch k_slc3s k_slc3f k_slc3h k_app2 k_apps k_appf k_apph k_cals k_cald k_cali k_cnb k_cna k_esn k_esc k_efn k_efc k_esh b_add b_sub b_mul b_quo b_rem b_and b_or b_xor b_andNot b_eql b_neq b_lss b_leq b_gtr b_geq b_shl b_shr b_seq b_sne b_slt b_sad q_bool q_str q_nil q_nilf u_not u_neg u_xor f_ret f_nor v_r v_c v_g v_reg v_ob v_set v_put v_so v_sn v_pn v_pc g_nil d_nil p_nil m_mv m_fr z_nil z_cons z_an z_ac g_cons d_cons p_cons y_mov y_bin y_eq y_un y_conv y_len y_slen y_idx y_aix y_fad y_load y_store y_boxp y_boxo y_boxm y_alloc y_alloca y_allocm y_nilarr y_build y_bslp y_bslo y_slc y_sslc y_slc3 y_sidx y_mkfn y_ext y_pick y_callf y_callb y_appd y_clear y_mxn y_field y_nilc y_make y_makeb y_buildm y_boxg y_mkif y_tass y_eqs y_callo y_mkmv y_callx y_vidx y_bslr y_ridx y_rload y_rapp y_calle nb_if
attribute [local go_sem] nbd VL_mk VL2_mk If_t If_f If_not If_and If_or If_dt If_df If_et If_ef If_ne Ck_t Ck_h Opt_s ld_a ld_c lm_a lm_c renL ren keepR renA idxM invL getObs mapOb renOb allNone putAll fzR fzO fz fzL fzOb fzB frzOk upFrom mapR resOne resA cellsOf oneA oneAL isP isPL okSt kRows kParts fillA setAt bor bor0 bor1 bor2 borC borI key0 key1 key2 keysA fillM cellsM cellM unif ptrA ifOk kPartsM getObsM allNoneM zipU scal0 scalar eqC evNil evNilF memK keyX hideM xbor scal1 scalX scalOb bndA mkMag showM lendV hideV hideR hideOb hideL hideO showL backO noneO mapA List.map_cons List.map_nil List.cons_append List.nil_append List.append_nil List.drop_zero List.drop_succ_cons List.drop_nil List.take_succ_cons List.take_zero List.take_nil List.length_cons List.length_nil List.length_map List.getElem?_map Option.map_some Option.map_none Int.toNat_natCast Int.toNat_zero Int.toNat_one Int.natCast_nonneg List.flatMap_cons List.flatMap_nil List.all_cons List.all_nil List.any_cons List.any_nil Bool.or_false Bool.false_or Bool.or_true Bool.true_or Bool.and_true Bool.true_and Bool.and_false Bool.false_and Bool.not_true Bool.not_false beq_self_eq_true nb_self all_nil List.forall_mem_cons tk_map tk_app bs_self bs_dec bq_t bq_f Bool.not_not decide_true decide_false Bool.not_not and_self and_true true_and eq_self List.reverse_cons List.reverse_nil List.getElem?_cons_zero List.getElem?_cons_succ cond_true cond_false List.set_cons_zero List.set_cons_succ Nat.zero_add Nat.add_zero if_true if_false ite_true ite_false implies_true wrap64 wrap8
open Go.Bits
set_option linter.unusedVariables false
set_option linter.unusedSimpArgs false
set_option maxRecDepth 10000
set_option maxHeartbeats 2000000
def onesI (bs : List Bool) : List Int := (ones bs).map fun (i : Nat) => (i : Int)
theorem onesZ_eq (bs : List Bool) : onesZ bs = (onesI bs).map encZ := by
 simp only [onesZ, onesI, List.map_map]
 rfl
theorem onesI_len (bs : List Bool) : (onesI bs).length = (ones bs).length := by simp [onesI]
theorem ones_le (bs : List Bool) : (ones bs).length ≤ bs.length := by
 unfold ones
 have := List.length_filter_le (fun i => bs.getD i false) (List.range bs.length)
 rwa [List.length_range] at this
theorem C61 {n : Nat} (ws : List (List AV)) : Ctr Tryd.prog 61 [.rp [.int .i64 (n : Int), .sl ws]] [] (ret [.mfn 91 [.rp [.int .i64 (n : Int), .sl ws]]]) := by
 apply ctr_b A61_ok rfl (Nat.le_of_ble_eq_true rfl)
 unfold A61
 simp only [initL, Nat.reduceAdd]
 simp -implicitDefEqProofs (maxSteps := 2000000) (disch := omega) only [↓reduceIte, go_sem, Int.reduceToNat, Nat.reduceAdd, Nat.reduceLeDiff, Nat.reduceEqDiff, Nat.reduceSub, Nat.reduceMul, reduceCtorEq]
 exact ⟨rfl, rfl⟩
end
end Go.Proofs.YtgbmneoeggdaoaaDoor.X
