/- Part of a proof: what functions of the program do. -/
import Derived.Test.YtpmabjkjolhilaaXaso
import Derived.Test.YtpmabjkjolhilaaXb
import Derived.RangeFuncBox
import Derived.RangeFuncLeaves
import Derived.Shelf.Abstract
import Derived.WalkKit
import Derived.OwnWalkIn
import Derived.TacticsInMore
import Derived.LoopNIn
import Derived.LoopIn
import Derived.Sort.LotD3
import Derived.Sort.LotD1
namespace Go.Proofs.Ytpmabjkjolhilaa.X
open Go Go.AM Go.Proofs
structure Loc where
  kind : Int
  cls : Int
  n : Int
  deriving DecidableEq, Inhabited
structure Seg where
  v : Int
  fr : Int
  to : Int
  loc : Loc
  deriving DecidableEq, Inhabited
def encL (s : Loc) : List AV := [.int .i64 s.kind, .int .i64 s.cls, .int .i64 s.n]
def encS (s : Seg) : List AV := [.int .i64 s.v, .int .i64 s.fr, .int .i64 s.to, .int .i64 s.loc.kind, .int .i64 s.loc.cls, .int .i64 s.loc.n]
end Go.Proofs.Ytpmabjkjolhilaa.X
namespace Go.Proofs.Ytpmabjkjolhilaa.X
section
open Go Go.AM Go.Proofs
attribute [local go_sem ↓] w_skip w_lbl w_ops w_draw w_pre w_post w_alt w_seq w_cond w_block w_join w_loop w_exit w_ret w_scope w_rfunc l_nil l_cons th_n th_e th_r bk_n bk_r bk_e t_nil t_it t_call i_nil i_one i_grp s_nil s_cons c_call e_mv e_nil e_frz o_mov o_bin o_eq o_un o_conv o_len o_slen o_idx o_aix o_fad o_load o_store o_boxp o_boxo o_boxm o_alloc o_alloca o_nilarr o_build o_bslp o_bslo o_slc o_sslc o_slc3 o_sidx o_mkfn o_ext o_pick o_callf o_callb o_appd o_clear o_mxn o_field o_nilc o_make o_buildm o_boxg o_mkif o_tass o_eqs o_callo k_int k_str k_bool k_grb k_grt k_some k_none k_arr k_lens k_lenf k_lenh k_idxs k_idxf k_idxh k_ld k_loadp k_loadr k_loade k_storer k_storee k_oin k_ois k_slcs k_slcf k_slch k_slc3s k_slc3f k_slc3h k_app2 k_apps k_appf k_apph k_cals k_cald k_cali k_cnb k_cna k_esn k_esc k_efn k_efc k_esh b_add b_sub b_mul b_quo b_rem b_and b_or b_xor b_andNot b_eql b_neq b_lss b_leq b_gtr b_geq b_shl b_shr b_seq b_sne b_slt b_sad q_bool q_str q_nil q_nilf u_not u_neg u_xor f_ret f_nor v_r v_c v_reg v_ob v_set v_put v_so v_sn v_pn v_pc g_nil d_nil p_nil m_mv m_fr z_nil z_cons z_an z_ac g_cons d_cons p_cons y_mov y_bin y_eq y_un y_conv y_len y_slen y_idx y_aix y_fad y_load y_store y_boxp y_boxo y_boxm y_alloc y_alloca y_nilarr y_build y_bslp y_bslo y_slc y_sslc y_slc3 y_sidx y_mkfn y_ext y_pick y_callf y_callb y_appd y_clear y_mxn y_field y_nilc y_make y_buildm y_boxg y_mkif y_tass y_eqs y_callo nb_if
attribute [local go_sem] VL_mk VL2_mk If_t If_f If_not If_and If_or If_dt If_df If_et If_ef If_ne Ck_t Ck_h Opt_s ld_a ld_c renL ren keepR renA idxM invL getObs mapOb renOb allNone putAll fzR fzO fz fzL fzOb frzOk upFrom mapR resOne resA cellsOf oneA oneAL isP isPL okSt kRows kParts fillA setAt bor bor0 bor1 bor2 borC borI key0 key1 key2 keysA fillM cellsM cellM unif ptrA ifOk kPartsM getObsM allNoneM zipU scal0 scalar eqC evNil evNilF List.map_cons List.map_nil List.cons_append List.nil_append List.append_nil List.drop_zero List.drop_succ_cons List.drop_nil List.take_succ_cons List.take_zero List.take_nil List.length_cons List.length_nil List.length_map List.getElem?_map Option.map_some Option.map_none Int.toNat_natCast Int.toNat_zero Int.toNat_one Int.natCast_nonneg List.flatMap_cons List.flatMap_nil List.all_cons List.all_nil Bool.and_true Bool.true_and Bool.and_false Bool.false_and Bool.not_true Bool.not_false beq_self_eq_true nb_self all_nil List.forall_mem_cons tk_map tk_app bs_self bs_dec bq_t bq_f Bool.not_not decide_true decide_false Bool.not_not and_self and_true true_and eq_self List.reverse_cons List.reverse_nil List.getElem?_cons_zero List.getElem?_cons_succ cond_true cond_false List.set_cons_zero List.set_cons_succ Nat.zero_add Nat.add_zero if_true if_false ite_true ite_false implies_true wrap64 wrap8
set_option linter.unusedVariables false
set_option linter.unusedSimpArgs false
set_option maxRecDepth 10000
def valsS (l : List Seg) : List (List AV) := l.map fun s => [.agg (encS s)]
theorem C60 (f : Nat) (caps : List AV) (l : List Seg) (hc : isPL caps = true) (hl : l.length < 1000000) (hi : IterA Try.prog f caps (valsS l)) : Ctr Try.prog 60 [.yl 0, .fn f caps] [] (retO [.hs 0 l.length 0 l.length] [.arr l.length 6 (l.map encS)]) := by
  apply ctr_bK A60_ok rfl (Nat.le_of_ble_eq_true rfl)
  unfold A60
  simp only [initL, Nat.reduceAdd]
  simp (config := {maxSteps := 2000000, implicitDefEqProofs := false}) (disch := omega) only [↓reduceIte, go_sem, Int.reduceToNat, Nat.reduceAdd, Nat.reduceLeDiff, Nat.reduceEqDiff, Nat.reduceSub, Nat.reduceMul, reduceCtorEq, hc, renL_pure hc]
  refine rangeL (σ := Nat) (xs := valsS l) rfl hc hi (fun x hx => by obtain ⟨s, _, rfl⟩ := List.mem_map.1 hx; rfl)
    (fun s => [(2, .box [.hs 2000 s 0 (l.take s).length]), (2000, .arr s 6 ((l.take s).map encS))]) (fun k s => s = k ∧ k ≤ l.length) 0 (by simp (config := {maxSteps := 2000000, implicitDefEqProofs := false}) (disch := omega) only [↓reduceIte, go_sem, Int.reduceToNat, Nat.reduceAdd, Nat.reduceLeDiff, Nat.reduceEqDiff, Nat.reduceSub, Nat.reduceMul, reduceCtorEq]) ⟨rfl, Nat.zero_le _⟩ (fun s => rfl) ?_ ?_
  · rintro k x s hx ⟨rfl, hk⟩
    obtain ⟨y, hy, rfl⟩ : ∃ y, l[s]? = some y ∧ (fun s => [.agg (encS s)]) y = x := by simpa [valsS] using hx
    have hlt : s < l.length := (List.getElem?_eq_some_iff.1 hy).1
    have h1 : (l.take s).length = s := by rw [List.length_take]; omega
    have h2 : (l.take (s + 1)).length = s + 1 := by rw [List.length_take]; omega
    have h3 : l.take (s + 1) = l.take s ++ [y] := by rw [List.take_add_one, hy]; rfl
    simp (config := {maxSteps := 2000000, implicitDefEqProofs := false}) (disch := omega) only [↓reduceIte, go_sem, Int.reduceToNat, Nat.reduceAdd, Nat.reduceLeDiff, Nat.reduceEqDiff, Nat.reduceSub, Nat.reduceMul, reduceCtorEq, encS, h1]
    refine ⟨rfl, s + 1, ?_, rfl, hlt⟩
    rw [h2, h3]
    simp [encS]
  · rintro s ⟨rfl, hk⟩
    simp (config := {maxSteps := 2000000, implicitDefEqProofs := false}) (disch := omega) only [↓reduceIte, go_sem, Int.reduceToNat, Nat.reduceAdd, Nat.reduceLeDiff, Nat.reduceEqDiff, Nat.reduceSub, Nat.reduceMul, reduceCtorEq]
    have hv : (valsS l).length = l.length := by simp [valsS]
    rw [hv, List.take_length]
    exact ⟨rfl, rfl⟩
theorem C43 (f : Nat) (caps : List AV) (l : List Seg) (hc : isPL caps = true) (hl : l.length < 1000000) (hi : IterA Try.prog f caps (valsS l)) : Ctr Try.prog 43 [.fn f caps] [] (retO [.hs 0 l.length 0 l.length] [.arr l.length 6 (l.map encS)]) := by
  apply ctr_b A43_ok rfl (Nat.le_of_ble_eq_true rfl)
  unfold A43
  simp only [initL, Nat.reduceAdd]
  simp (config := {maxSteps := 2000000, implicitDefEqProofs := false}) (disch := omega) only [↓reduceIte, go_sem, Int.reduceToNat, Nat.reduceAdd, Nat.reduceLeDiff, Nat.reduceEqDiff, Nat.reduceSub, Nat.reduceMul, reduceCtorEq, hc, renL_pure hc]
  refine callD (C60 f caps l hc hl hi) ?_
  simp (config := {maxSteps := 2000000, implicitDefEqProofs := false}) (disch := omega) only [↓reduceIte, go_sem, Int.reduceToNat, Nat.reduceAdd, Nat.reduceLeDiff, Nat.reduceEqDiff, Nat.reduceSub, Nat.reduceMul, reduceCtorEq]
  exact ⟨rfl, rfl⟩
theorem C37 (l : List Seg) : Ctr Try.prog 37 [.sl (l.map encS)] [] (ret [.fn 45 [.rp [.sl (l.map encS)]]]) := by
  apply ctr_b A37_ok rfl (Nat.le_of_ble_eq_true rfl)
  unfold A37
  simp only [initL, Nat.reduceAdd]
  simp (config := {maxSteps := 2000000, implicitDefEqProofs := false}) (disch := omega) only [↓reduceIte, go_sem, Int.reduceToNat, Nat.reduceAdd, Nat.reduceLeDiff, Nat.reduceEqDiff, Nat.reduceSub, Nat.reduceMul, reduceCtorEq]
  exact ⟨rfl, rfl⟩
end
section
open Go Go.AM Go.Proofs Go.RowKit Go.Shelf Go.Proofs.Ytpmabjkjolhilaa
set_option linter.unusedVariables false
set_option linter.unusedSimpArgs false
attribute [local go_sem] Oper.semAt_some
set_option maxRecDepth 100000 in
set_option maxHeartbeats 2000000 in
theorem valuesS (l Bs bo b off len cap : Nat) (hreach : len * 48 ≤ 140737488351232) (J : Nat → World → Prop) (Jx : World → Prop) (cs : Nat → Nat → Int)
    (hI : ∀ k W W', J k W → Idle W W' → J k W')
    (hV : ∀ k W, J k W → W.cell? ⟨Bs, bo, none⟩ = some (.slice (some ⟨b, off, none⟩) len cap) ∧ ∀ j i, j < len → i < 6 → W.cell? ⟨b, off + j * 6 + i, none⟩ = some (.int .i64 (cs j i)))
    (hY : ∀ k W, k < len → J k W → YieldAt Fence.wide 0 Try.prog l #[.agg #[.int .i64 (cs k 0), .int .i64 (cs k 1), .int .i64 (cs k 2), .int .i64 (cs k 3), .int .i64 (cs k 4), .int .i64 (cs k 5)]] W fun e W' => (e = .returned (.bool true) ∧ J (k + 1) W') ∨ (e = .returned (.bool false) ∧ Jx W'))
    (W : World) (h0 : J 0 W) :
    CallsIn Fence.wide 0 Try.prog 45 #[.func (.yield l) #[] #[], .pointer (some ⟨Bs, bo, none⟩)] W fun e W' => (∃ v, e = .returned v) ∧ (J len W' ∨ Jx W') := by
  refine callsIn_of_wp Try.func45 rfl trivial ?_ rfl
  simp only [Try.ntmps45, List.size_toArray, List.length_cons, List.length_nil, Nat.reduceAdd, Nat.reduceSub, Array.replicate_succ, Array.replicate_zero, List.push_toArray, List.append_toArray, List.nil_append, List.cons_append]
  obtain ⟨hbs, hcs⟩ := hV 0 W h0
  gi_wp2
  gi_loopw [7] (fun i wr => ∃ k : Nat, k ≤ len ∧ i = .int .i64 k ∧ J k wr)
    (fun i _ => len - (intOf i).toNat)
  case atStart => exact ⟨0, Nat.zero_le _, rfl, h0⟩
  case round =>
    obtain ⟨k, hk, rfl, hJs⟩ := hrel
    by_cases hlt : k < len
    · obtain ⟨hb2, hc2⟩ := hV k wr hJs
      have c0 : wr.cell? ⟨b, off + k * 6, none⟩ = some (.int .i64 (cs k 0)) := by simpa using hc2 k 0 hlt (by omega)
      have c1 := hc2 k 1 hlt (by omega)
      have c2 := hc2 k 2 hlt (by omega)
      have c3 := hc2 k 3 hlt (by omega)
      have c4 := hc2 k 4 hlt (by omega)
      have c5 := hc2 k 5 hlt (by omega)
      clear hb2 hc2 hcs
      have hJ2 : J k (wr.alloc (Obj.cells #[Value.int IntKind.i64 (cs k 0), Value.int IntKind.i64 (cs k 1), Value.int IntKind.i64 (cs k 2), Value.int IntKind.i64 (cs k 3), Value.int IntKind.i64 (cs k 4), Value.int IntKind.i64 (cs k 5)] 33)) := hI k _ _ hJs (Quiet.alloc _ _ _)
      obtain ⟨fn, tmps, assign, body, hy, hR⟩ := hY k _ hlt hJ2
      gi_wp2
      refine ⟨rfl, hR.mono ?_⟩
      rintro e W3 (⟨rfl, hJ3⟩ | ⟨rfl, hJx⟩)
      · gi_wp2
        go_roundw
        case rel => exact ⟨k + 1, by omega, by simp, hJ3⟩
        case measure => simp [intOf]; omega
      · gi_wp2
        refine bodyPost_ret (results_none rfl _ _ _) rfl ?_
        exact ⟨⟨_, rfl⟩, .inr hJx⟩
    · obtain rfl : k = len := by omega
      gi_wp2
      go_end0
      exact ⟨⟨_, rfl⟩, .inl hJs⟩
set_option maxRecDepth 100000 in
set_option maxHeartbeats 2000000 in
theorem valuesnS (l Bs bo cap : Nat) (a : Option Addr) (J : Nat → World → Prop) (Jx : World → Prop) (W : World) (hbs : W.cell? ⟨Bs, bo, none⟩ = some (.slice a 0 cap)) (h0 : J 0 W) :
    CallsIn Fence.wide 0 Try.prog 45 #[.func (.yield l) #[] #[], .pointer (some ⟨Bs, bo, none⟩)] W fun e W' => (∃ v, e = .returned v) ∧ (J 0 W' ∨ Jx W') := by
  refine callsIn_of_wp Try.func45 rfl trivial ?_ rfl
  simp only [Try.ntmps45, List.size_toArray, List.length_cons, List.length_nil, Nat.reduceAdd, Nat.reduceSub, Array.replicate_succ, Array.replicate_zero, List.push_toArray, List.append_toArray, List.nil_append, List.cons_append]
  gi_wp2
  gi_loopw [7] (fun i wr => i = .int .i64 0 ∧ J 0 wr) (fun _ _ => 0)
  case atStart => exact ⟨rfl, h0⟩
  case round =>
    obtain ⟨rfl, hJs⟩ := hrel
    gi_wp2
    go_end0
    exact ⟨⟨_, rfl⟩, .inl hJs⟩
end
section
open Go Go.AM Go.Proofs
set_option linter.unusedVariables false
set_option linter.unusedSimpArgs false
set_option maxRecDepth 10000
def valSS (s : Seg) : Array Value := #[.agg #[.int .i64 s.v, .int .i64 s.fr, .int .i64 s.to, .int .i64 s.loc.kind, .int .i64 s.loc.cls, .int .i64 s.loc.n]]
def numSS (s : Seg) : Nat → Int
  | 0 => s.v
  | 1 => s.fr
  | 2 => s.to
  | 3 => s.loc.kind
  | 4 => s.loc.cls
  | _ => s.loc.n
def cellSS (l : List Seg) (k i : Nat) : Int := match l[k]? with | some s => numSS s i | none => 0
theorem I45 (l : List Seg) (hl : l.length < 1000000) : IterA Try.prog 45 [.rp [.sl (l.map encS)]] (valsS l) := by
  refine ⟨by kernel_rfl, fun V cvs h => ?_⟩
  simp only [RepPL, RepP, RepC] at h
  obtain ⟨v, r, rfl, ⟨b0, o0, rfl, ⟨⟨u, hu, ⟨a, cap, rfl, hcap, hx⟩, _⟩, _⟩⟩, rfl⟩ := h
  refine ⟨l.map valSS, by simp [valsS], fun k x v hk hv => ?_, ?_⟩
  · obtain ⟨s, hs, rfl⟩ : ∃ s, l[k]? = some s ∧ (fun s => [.agg (encS s)]) s = x := by simpa [valsS] using hk
    have : valSS s = v := by simpa [hs] using hv
    subst this
    simp only [RepPL, RepP, encS, valSS]
    exact ⟨_, _, rfl, ⟨[.int .i64 s.v, .int .i64 s.fr, .int .i64 s.to, .int .i64 s.loc.kind, .int .i64 s.loc.cls, .int .i64 s.loc.n], rfl, by simp⟩, rfl⟩
  · intro W lw J Jx hI1 hI2 hV hY h0
    rw [List.length_map] at hu hcap ⊢
    by_cases hne : l = []
    · subst hne
      have := valuesnS lw b0 o0 cap a J Jx W (hV 0 W h0 _ _ _ hu) h0
      simpa using this
    · rcases hx with hx | ⟨b, off, esz, rfl, hr⟩
      · simp at hx
        exact absurd hx hne
      · have he : esz = 6 := hr.esz_of (n := 6) (fun c hc => by obtain ⟨s, _, rfl⟩ := List.mem_map.1 hc; rfl) (by simpa using hne)
        subst he
        have := valuesS lw b0 o0 b off l.length cap (by omega) J Jx (cellSS l) hI1 (fun k W hJ => ⟨hV k W hJ _ _ _ hu, fun j i hj hi => ?_⟩) (fun k W hk hJ => ?_) W h0
        · simpa using this
        · have hs : l[j]? = some l[j] := List.getElem?_eq_getElem hj
          obtain ⟨_, hc⟩ := hr.get (i := j) (c := encS l[j]) (by rw [List.getElem?_map, hs]; rfl)
          apply hV k W hJ
          simp only [encS, RepC, RepP] at hc
          obtain ⟨⟨v0, g0, rfl, _⟩, ⟨v1, g1, rfl, _⟩, ⟨v2, g2, rfl, _⟩, ⟨v3, g3, rfl, _⟩, ⟨v4, g4, rfl, _⟩, ⟨v5, g5, rfl, _⟩, _⟩ := hc
          unfold cellSS
          rw [hs]
          have : i = 0 ∨ i = 1 ∨ i = 2 ∨ i = 3 ∨ i = 4 ∨ i = 5 := by omega
          rcases this with rfl | rfl | rfl | rfl | rfl | rfl
          · exact g0
          · exact g1
          · exact g2
          · exact g3
          · exact g4
          · exact g5
        · have hs : l[k]? = some l[k] := List.getElem?_eq_getElem hk
          have := hY k (valSS l[k]) W (by rw [List.getElem?_map, hs]; rfl) hJ
          simpa [cellSS, hs, numSS, valSS] using this
end
end Go.Proofs.Ytpmabjkjolhilaa.X
namespace Go.Proofs.Ytpmabjkjolhilaa.X
section
open Go Go.AM Go.Proofs
attribute [local go_sem ↓] w_skip w_lbl w_ops w_draw w_pre w_post w_alt w_seq w_cond w_block w_join w_loop w_exit w_ret w_scope w_rfunc l_nil l_cons th_n th_e th_r bk_n bk_r bk_e t_nil t_it t_call i_nil i_one i_grp s_nil s_cons c_call e_mv e_nil e_frz o_mov o_bin o_eq o_un o_conv o_len o_slen o_idx o_aix o_fad o_load o_store o_boxp o_boxo o_boxm o_alloc o_alloca o_nilarr o_build o_bslp o_bslo o_slc o_sslc o_slc3 o_sidx o_mkfn o_ext o_pick o_callf o_callb o_appd o_clear o_mxn o_field o_nilc o_make o_buildm o_boxg o_mkif o_tass o_eqs o_callo k_int k_str k_bool k_grb k_grt k_some k_none k_arr k_lens k_lenf k_lenh k_idxs k_idxf k_idxh k_ld k_loadp k_loadr k_loade k_storer k_storee k_oin k_ois k_slcs k_slcf k_slch k_slc3s k_slc3f k_slc3h k_app2 k_apps k_appf k_apph k_cals k_cald k_cali k_cnb k_cna k_esn k_esc k_efn k_efc k_esh b_add b_sub b_mul b_quo b_rem b_and b_or b_xor b_andNot b_eql b_neq b_lss b_leq b_gtr b_geq b_shl b_shr b_seq b_sne b_slt b_sad q_bool q_str q_nil q_nilf u_not u_neg u_xor f_ret f_nor v_r v_c v_reg v_ob v_set v_put v_so v_sn v_pn v_pc g_nil d_nil p_nil m_mv m_fr z_nil z_cons z_an z_ac g_cons d_cons p_cons y_mov y_bin y_eq y_un y_conv y_len y_slen y_idx y_aix y_fad y_load y_store y_boxp y_boxo y_boxm y_alloc y_alloca y_nilarr y_build y_bslp y_bslo y_slc y_sslc y_slc3 y_sidx y_mkfn y_ext y_pick y_callf y_callb y_appd y_clear y_mxn y_field y_nilc y_make y_buildm y_boxg y_mkif y_tass y_eqs y_callo nb_if
attribute [local go_sem] VL_mk VL2_mk If_t If_f If_not If_and If_or If_dt If_df If_et If_ef If_ne Ck_t Ck_h Opt_s ld_a ld_c renL ren keepR renA idxM invL getObs mapOb renOb allNone putAll fzR fzO fz fzL fzOb frzOk upFrom mapR resOne resA cellsOf oneA oneAL isP isPL okSt kRows kParts fillA setAt bor bor0 bor1 bor2 borC borI key0 key1 key2 keysA fillM cellsM cellM unif ptrA ifOk kPartsM getObsM allNoneM zipU scal0 scalar eqC evNil evNilF List.map_cons List.map_nil List.cons_append List.nil_append List.append_nil List.drop_zero List.drop_succ_cons List.drop_nil List.take_succ_cons List.take_zero List.take_nil List.length_cons List.length_nil List.length_map List.getElem?_map Option.map_some Option.map_none Int.toNat_natCast Int.toNat_zero Int.toNat_one Int.natCast_nonneg List.flatMap_cons List.flatMap_nil List.all_cons List.all_nil Bool.and_true Bool.true_and Bool.and_false Bool.false_and Bool.not_true Bool.not_false beq_self_eq_true nb_self all_nil List.forall_mem_cons tk_map tk_app bs_self bs_dec bq_t bq_f Bool.not_not decide_true decide_false Bool.not_not and_self and_true true_and eq_self List.reverse_cons List.reverse_nil List.getElem?_cons_zero List.getElem?_cons_succ cond_true cond_false List.set_cons_zero List.set_cons_succ Nat.zero_add Nat.add_zero if_true if_false ite_true ite_false implies_true wrap64 wrap8
set_option linter.unusedVariables false
set_option linter.unusedSimpArgs false
set_option maxRecDepth 10000
def valsN (l : List Int) : List (List AV) := l.map fun s => [.int .i64 s]
theorem C59 (f : Nat) (caps : List AV) (l : List Int) (hc : isPL caps = true) (hl : l.length < 1000000) (hi : IterA Try.prog f caps (valsN l)) : Ctr Try.prog 59 [.yl 0, .fn f caps] [] (retO [.hs 0 l.length 0 l.length] [.arr l.length 1 (l.map encN)]) := by
  apply ctr_bK A59_ok rfl (Nat.le_of_ble_eq_true rfl)
  unfold A59
  simp only [initL, Nat.reduceAdd]
  simp (config := {maxSteps := 2000000, implicitDefEqProofs := false}) (disch := omega) only [↓reduceIte, go_sem, Int.reduceToNat, Nat.reduceAdd, Nat.reduceLeDiff, Nat.reduceEqDiff, Nat.reduceSub, Nat.reduceMul, reduceCtorEq, hc, renL_pure hc]
  refine rangeL (σ := Nat) (xs := valsN l) rfl hc hi (fun x hx => by obtain ⟨s, _, rfl⟩ := List.mem_map.1 hx; rfl)
    (fun s => [(2, .box [.hs 2000 s 0 (l.take s).length]), (2000, .arr s 1 ((l.take s).map encN))]) (fun k s => s = k ∧ k ≤ l.length) 0 (by simp (config := {maxSteps := 2000000, implicitDefEqProofs := false}) (disch := omega) only [↓reduceIte, go_sem, Int.reduceToNat, Nat.reduceAdd, Nat.reduceLeDiff, Nat.reduceEqDiff, Nat.reduceSub, Nat.reduceMul, reduceCtorEq]) ⟨rfl, Nat.zero_le _⟩ (fun s => rfl) ?_ ?_
  · rintro k x s hx ⟨rfl, hk⟩
    obtain ⟨y, hy, rfl⟩ : ∃ y, l[s]? = some y ∧ (fun s => [.int .i64 s]) y = x := by simpa [valsN] using hx
    have hlt : s < l.length := (List.getElem?_eq_some_iff.1 hy).1
    have h1 : (l.take s).length = s := by rw [List.length_take]; omega
    have h2 : (l.take (s + 1)).length = s + 1 := by rw [List.length_take]; omega
    have h3 : l.take (s + 1) = l.take s ++ [y] := by rw [List.take_add_one, hy]; rfl
    simp (config := {maxSteps := 2000000, implicitDefEqProofs := false}) (disch := omega) only [↓reduceIte, go_sem, Int.reduceToNat, Nat.reduceAdd, Nat.reduceLeDiff, Nat.reduceEqDiff, Nat.reduceSub, Nat.reduceMul, reduceCtorEq, encN, h1]
    refine ⟨rfl, s + 1, ?_, rfl, hlt⟩
    rw [h2, h3]
    simp [encN]
  · rintro s ⟨rfl, hk⟩
    simp (config := {maxSteps := 2000000, implicitDefEqProofs := false}) (disch := omega) only [↓reduceIte, go_sem, Int.reduceToNat, Nat.reduceAdd, Nat.reduceLeDiff, Nat.reduceEqDiff, Nat.reduceSub, Nat.reduceMul, reduceCtorEq]
    have hv : (valsN l).length = l.length := by simp [valsN]
    rw [hv, List.take_length]
    exact ⟨rfl, rfl⟩
theorem C41 (f : Nat) (caps : List AV) (l : List Int) (hc : isPL caps = true) (hl : l.length < 1000000) (hi : IterA Try.prog f caps (valsN l)) : Ctr Try.prog 41 [.fn f caps] [] (retO [.hs 0 l.length 0 l.length] [.arr l.length 1 (l.map encN)]) := by
  apply ctr_b A41_ok rfl (Nat.le_of_ble_eq_true rfl)
  unfold A41
  simp only [initL, Nat.reduceAdd]
  simp (config := {maxSteps := 2000000, implicitDefEqProofs := false}) (disch := omega) only [↓reduceIte, go_sem, Int.reduceToNat, Nat.reduceAdd, Nat.reduceLeDiff, Nat.reduceEqDiff, Nat.reduceSub, Nat.reduceMul, reduceCtorEq, hc, renL_pure hc]
  refine callD (C59 f caps l hc hl hi) ?_
  simp (config := {maxSteps := 2000000, implicitDefEqProofs := false}) (disch := omega) only [↓reduceIte, go_sem, Int.reduceToNat, Nat.reduceAdd, Nat.reduceLeDiff, Nat.reduceEqDiff, Nat.reduceSub, Nat.reduceMul, reduceCtorEq]
  exact ⟨rfl, rfl⟩
theorem C35 (l : List Int) : Ctr Try.prog 35 [.sl (l.map encN)] [] (ret [.fn 42 [.rp [.sl (l.map encN)]]]) := by
  apply ctr_b A35_ok rfl (Nat.le_of_ble_eq_true rfl)
  unfold A35
  simp only [initL, Nat.reduceAdd]
  simp (config := {maxSteps := 2000000, implicitDefEqProofs := false}) (disch := omega) only [↓reduceIte, go_sem, Int.reduceToNat, Nat.reduceAdd, Nat.reduceLeDiff, Nat.reduceEqDiff, Nat.reduceSub, Nat.reduceMul, reduceCtorEq]
  exact ⟨rfl, rfl⟩
end
section
open Go Go.AM Go.Proofs Go.RowKit Go.Shelf Go.Proofs.Ytpmabjkjolhilaa
set_option linter.unusedVariables false
set_option linter.unusedSimpArgs false
attribute [local go_sem] Oper.semAt_some
set_option maxRecDepth 100000 in
set_option maxHeartbeats 2000000 in
theorem valuesN (l Bs bo b off len cap : Nat) (hreach : len * 8 ≤ 140737488351232) (J : Nat → World → Prop) (Jx : World → Prop) (cs : Nat → Nat → Int)
    (hI : ∀ k W W', J k W → Idle W W' → J k W')
    (hV : ∀ k W, J k W → W.cell? ⟨Bs, bo, none⟩ = some (.slice (some ⟨b, off, none⟩) len cap) ∧ ∀ j i, j < len → i < 1 → W.cell? ⟨b, off + j * 1 + i, none⟩ = some (.int .i64 (cs j i)))
    (hY : ∀ k W, k < len → J k W → YieldAt Fence.wide 0 Try.prog l #[.int .i64 (cs k 0)] W fun e W' => (e = .returned (.bool true) ∧ J (k + 1) W') ∨ (e = .returned (.bool false) ∧ Jx W'))
    (W : World) (h0 : J 0 W) :
    CallsIn Fence.wide 0 Try.prog 42 #[.func (.yield l) #[] #[], .pointer (some ⟨Bs, bo, none⟩)] W fun e W' => (∃ v, e = .returned v) ∧ (J len W' ∨ Jx W') := by
  refine callsIn_of_wp Try.func42 rfl trivial ?_ rfl
  simp only [Try.ntmps42, List.size_toArray, List.length_cons, List.length_nil, Nat.reduceAdd, Nat.reduceSub, Array.replicate_succ, Array.replicate_zero, List.push_toArray, List.append_toArray, List.nil_append, List.cons_append]
  obtain ⟨hbs, hcs⟩ := hV 0 W h0
  gi_wp2
  gi_loopw [7] (fun i wr => ∃ k : Nat, k ≤ len ∧ i = .int .i64 k ∧ J k wr)
    (fun i _ => len - (intOf i).toNat)
  case atStart => exact ⟨0, Nat.zero_le _, rfl, h0⟩
  case round =>
    obtain ⟨k, hk, rfl, hJs⟩ := hrel
    by_cases hlt : k < len
    · obtain ⟨hb2, hc2⟩ := hV k wr hJs
      have c0 : wr.cell? ⟨b, off + k, none⟩ = some (.int .i64 (cs k 0)) := by simpa using hc2 k 0 hlt (by omega)
      clear hb2 hc2 hcs
      obtain ⟨fn, tmps, assign, body, hy, hR⟩ := hY k _ hlt hJs
      gi_wp2
      refine ⟨rfl, hR.mono ?_⟩
      rintro e W3 (⟨rfl, hJ3⟩ | ⟨rfl, hJx⟩)
      · gi_wp2
        go_roundw
        case rel => exact ⟨k + 1, by omega, by simp, hJ3⟩
        case measure => simp [intOf]; omega
      · gi_wp2
        refine bodyPost_ret (results_none rfl _ _ _) rfl ?_
        exact ⟨⟨_, rfl⟩, .inr hJx⟩
    · obtain rfl : k = len := by omega
      gi_wp2
      go_end0
      exact ⟨⟨_, rfl⟩, .inl hJs⟩
set_option maxRecDepth 100000 in
set_option maxHeartbeats 2000000 in
theorem valuesnN (l Bs bo cap : Nat) (a : Option Addr) (J : Nat → World → Prop) (Jx : World → Prop) (W : World) (hbs : W.cell? ⟨Bs, bo, none⟩ = some (.slice a 0 cap)) (h0 : J 0 W) :
    CallsIn Fence.wide 0 Try.prog 42 #[.func (.yield l) #[] #[], .pointer (some ⟨Bs, bo, none⟩)] W fun e W' => (∃ v, e = .returned v) ∧ (J 0 W' ∨ Jx W') := by
  refine callsIn_of_wp Try.func42 rfl trivial ?_ rfl
  simp only [Try.ntmps42, List.size_toArray, List.length_cons, List.length_nil, Nat.reduceAdd, Nat.reduceSub, Array.replicate_succ, Array.replicate_zero, List.push_toArray, List.append_toArray, List.nil_append, List.cons_append]
  gi_wp2
  gi_loopw [7] (fun i wr => i = .int .i64 0 ∧ J 0 wr) (fun _ _ => 0)
  case atStart => exact ⟨rfl, h0⟩
  case round =>
    obtain ⟨rfl, hJs⟩ := hrel
    gi_wp2
    go_end0
    exact ⟨⟨_, rfl⟩, .inl hJs⟩
end
section
open Go Go.AM Go.Proofs
set_option linter.unusedVariables false
set_option linter.unusedSimpArgs false
set_option maxRecDepth 10000
def valSN (s : Int) : Array Value := #[.int .i64 s]
def numSN (s : Int) : Nat → Int
  | _ => s
def cellSN (l : List Int) (k i : Nat) : Int := match l[k]? with | some s => numSN s i | none => 0
theorem I42 (l : List Int) (hl : l.length < 1000000) : IterA Try.prog 42 [.rp [.sl (l.map encN)]] (valsN l) := by
  refine ⟨by kernel_rfl, fun V cvs h => ?_⟩
  simp only [RepPL, RepP, RepC] at h
  obtain ⟨v, r, rfl, ⟨b0, o0, rfl, ⟨⟨u, hu, ⟨a, cap, rfl, hcap, hx⟩, _⟩, _⟩⟩, rfl⟩ := h
  refine ⟨l.map valSN, by simp [valsN], fun k x v hk hv => ?_, ?_⟩
  · obtain ⟨s, hs, rfl⟩ : ∃ s, l[k]? = some s ∧ (fun s => [.int .i64 s]) s = x := by simpa [valsN] using hk
    have : valSN s = v := by simpa [hs] using hv
    subst this
    simp only [RepPL, RepP, encN, valSN]
    exact ⟨_, _, rfl, rfl, rfl⟩
  · intro W lw J Jx hI1 hI2 hV hY h0
    rw [List.length_map] at hu hcap ⊢
    by_cases hne : l = []
    · subst hne
      have := valuesnN lw b0 o0 cap a J Jx W (hV 0 W h0 _ _ _ hu) h0
      simpa using this
    · rcases hx with hx | ⟨b, off, esz, rfl, hr⟩
      · simp at hx
        exact absurd hx hne
      · have he : esz = 1 := hr.esz_of (n := 1) (fun c hc => by obtain ⟨s, _, rfl⟩ := List.mem_map.1 hc; rfl) (by simpa using hne)
        subst he
        have := valuesN lw b0 o0 b off l.length cap (by omega) J Jx (cellSN l) hI1 (fun k W hJ => ⟨hV k W hJ _ _ _ hu, fun j i hj hi => ?_⟩) (fun k W hk hJ => ?_) W h0
        · simpa using this
        · have hs : l[j]? = some l[j] := List.getElem?_eq_getElem hj
          obtain ⟨_, hc⟩ := hr.get (i := j) (c := encN l[j]) (by rw [List.getElem?_map, hs]; rfl)
          apply hV k W hJ
          simp only [encN, RepC, RepP] at hc
          obtain ⟨⟨v0, g0, rfl, _⟩, _⟩ := hc
          unfold cellSN
          rw [hs]
          have : i = 0 := by omega
          rcases this with rfl
          · exact g0
        · have hs : l[k]? = some l[k] := List.getElem?_eq_getElem hk
          have := hY k (valSN l[k]) W (by rw [List.getElem?_map, hs]; rfl) hJ
          simpa [cellSN, hs, numSN, valSN] using this
end
end Go.Proofs.Ytpmabjkjolhilaa.X
namespace Go.Proofs.Ytpmabjkjolhilaa.X
open Go Go.AM Go.Proofs
attribute [local go_sem ↓] w_skip w_lbl w_ops w_draw w_pre w_post w_alt w_seq w_cond w_block w_join w_loop w_exit w_ret w_scope w_rfunc l_nil l_cons th_n th_e th_r bk_n bk_r bk_e t_nil t_it t_call i_nil i_one i_grp s_nil s_cons c_call e_mv e_nil e_frz o_mov o_bin o_eq o_un o_conv o_len o_slen o_idx o_aix o_fad o_load o_store o_boxp o_boxo o_boxm o_alloc o_alloca o_nilarr o_build o_bslp o_bslo o_slc o_sslc o_slc3 o_sidx o_mkfn o_ext o_pick o_callf o_callb o_appd o_clear o_mxn o_field o_nilc o_make o_buildm o_boxg o_mkif o_tass o_eqs o_callo k_int k_str k_bool k_grb k_grt k_some k_none k_arr k_lens k_lenf k_lenh k_idxs k_idxf k_idxh k_ld k_loadp k_loadr k_loade k_storer k_storee k_oin k_ois k_slcs k_slcf k_slch k_slc3s k_slc3f k_slc3h k_app2 k_apps k_appf k_apph k_cals k_cald k_cali k_cnb k_cna k_esn k_esc k_efn k_efc k_esh b_add b_sub b_mul b_quo b_rem b_and b_or b_xor b_andNot b_eql b_neq b_lss b_leq b_gtr b_geq b_shl b_shr b_seq b_sne b_slt b_sad q_bool q_str q_nil q_nilf u_not u_neg u_xor f_ret f_nor v_r v_c v_reg v_ob v_set v_put v_so v_sn v_pn v_pc g_nil d_nil p_nil m_mv m_fr z_nil z_cons z_an z_ac g_cons d_cons p_cons y_mov y_bin y_eq y_un y_conv y_len y_slen y_idx y_aix y_fad y_load y_store y_boxp y_boxo y_boxm y_alloc y_alloca y_nilarr y_build y_bslp y_bslo y_slc y_sslc y_slc3 y_sidx y_mkfn y_ext y_pick y_callf y_callb y_appd y_clear y_mxn y_field y_nilc y_make y_buildm y_boxg y_mkif y_tass y_eqs y_callo nb_if
attribute [local go_sem] VL_mk VL2_mk If_t If_f If_not If_and If_or If_dt If_df If_et If_ef If_ne Ck_t Ck_h Opt_s ld_a ld_c renL ren keepR renA idxM invL getObs mapOb renOb allNone putAll fzR fzO fz fzL fzOb frzOk upFrom mapR resOne resA cellsOf oneA oneAL isP isPL okSt kRows kParts fillA setAt bor bor0 bor1 bor2 borC borI key0 key1 key2 keysA fillM cellsM cellM unif ptrA ifOk kPartsM getObsM allNoneM zipU scal0 scalar eqC evNil evNilF List.map_cons List.map_nil List.cons_append List.nil_append List.append_nil List.drop_zero List.drop_succ_cons List.drop_nil List.take_succ_cons List.take_zero List.take_nil List.length_cons List.length_nil List.length_map List.getElem?_map Option.map_some Option.map_none Int.toNat_natCast Int.toNat_zero Int.toNat_one Int.natCast_nonneg List.flatMap_cons List.flatMap_nil List.all_cons List.all_nil Bool.and_true Bool.true_and Bool.and_false Bool.false_and Bool.not_true Bool.not_false beq_self_eq_true nb_self all_nil List.forall_mem_cons tk_map tk_app bs_self bs_dec bq_t bq_f Bool.not_not decide_true decide_false Bool.not_not and_self and_true true_and eq_self List.reverse_cons List.reverse_nil List.getElem?_cons_zero List.getElem?_cons_succ cond_true cond_false List.set_cons_zero List.set_cons_succ Nat.zero_add Nat.add_zero if_true if_false ite_true ite_false implies_true wrap64 wrap8
set_option linter.unusedVariables false
set_option linter.unusedSimpArgs false
set_option maxRecDepth 10000
/-! Rows of numbers in their order. -/
def c3 (x y : Int) : Int := if x < y then -1 else if x > y then 1 else 0
def orF : List Int → Int
  | [] => 0
  | c :: cs => if c = 0 then orF cs else c
def lexC : List Int → List Int → Int
  | x :: xs, y :: ys => if c3 x y = 0 then lexC xs ys else c3 x y
  | _, _ => 0
theorem c3_anti (x y : Int) : c3 y x = - c3 x y := by unfold c3; repeat' split
                                                      all_goals omega
theorem c3_zero {x y : Int} : c3 x y = 0 ↔ x = y := by unfold c3; repeat' split
                                                       all_goals omega
theorem c3_neg {x y : Int} : c3 x y < 0 ↔ x < y := by unfold c3; repeat' split
                                                      all_goals omega
theorem lex_anti : ∀ a b : List Int, lexC b a = - lexC a b
  | [], [] => rfl
  | [], _ :: _ => rfl
  | _ :: _, [] => rfl
  | x :: xs, y :: ys => by
    have h := lex_anti xs ys
    have h1 := c3_anti x y
    simp only [lexC]
    by_cases e : c3 x y = 0
    · rw [if_pos (by omega), if_pos e, h]
    · rw [if_neg (by omega), if_neg e, h1]
theorem lex_eq : ∀ {a b : List Int}, a.length = b.length → lexC a b = 0 → a = b
  | [], [], _, _ => rfl
  | [], _ :: _, h, _ => by simp at h
  | _ :: _, [], h, _ => by simp at h
  | x :: xs, y :: ys, h, e => by
    simp only [lexC] at e
    split at e
    · rename_i e2
      rw [c3_zero.1 e2, lex_eq (by simpa using h) e]
    · omega
theorem lex_trans : ∀ {a b c : List Int}, a.length = b.length → b.length = c.length → lexC a b ≤ 0 → lexC b c ≤ 0 → lexC a c ≤ 0 ∧ (lexC a b < 0 ∨ lexC b c < 0 → lexC a c < 0)
  | [], [], [], _, _, _, _ => ⟨by simp [lexC], fun h => by simp [lexC] at h⟩
  | [], _ :: _, _, h, _, _, _ => by simp at h
  | _ :: _, [], _, h, _, _, _ => by simp at h
  | _, [], _ :: _, _, h, _, _ => by simp at h
  | _, _ :: _, [], _, h, _, _ => by simp at h
  | x :: xs, y :: ys, z :: zs, h1, h2, e1, e2 => by
    have ih := @lex_trans xs ys zs (by simpa using h1) (by simpa using h2)
    simp only [lexC] at e1 e2 ⊢
    have hx := @c3_neg x y
    have hy := @c3_neg y z
    have hz := @c3_neg x z
    have zx := @c3_zero x y
    have zy := @c3_zero y z
    have zz := @c3_zero x z
    by_cases k1 : x = y
    · have q1 := zx.2 k1
      by_cases k2 : y = z
      · rw [if_pos (zx.2 k1)] at e1 ⊢
        rw [if_pos (zy.2 k2)] at e2 ⊢
        rw [if_pos (zz.2 (k1.trans k2))]
        exact ih e1 e2
      · have q2 : c3 y z ≠ 0 := fun e => k2 (zy.1 e)
        have q3 : c3 x z ≠ 0 := fun e => k2 (k1.symm.trans (zz.1 e))
        rw [if_neg q2] at e2
        rw [if_neg q3]
        omega
    · have q1 : c3 x y ≠ 0 := fun e => k1 (zx.1 e)
      rw [if_neg q1] at e1
      by_cases k2 : y = z
      · have q3 : c3 x z ≠ 0 := fun e => k1 ((zz.1 e).trans k2.symm)
        rw [if_neg q3]
        omega
      · have q2 : c3 y z ≠ 0 := fun e => k2 (zy.1 e)
        rw [if_neg q2] at e2
        have q3 : c3 x z ≠ 0 := fun e => by have := zz.1 e; omega
        rw [if_neg q3]
        omega
theorem C62 (x : Int) : Ctr Try.prog 62 [.int .i64 x] [] (ret [.bool false]) := by
  apply ctr_b A62_ok rfl (Nat.le_of_ble_eq_true rfl)
  unfold A62
  simp only [initL, Nat.reduceAdd]
  simp (config := {maxSteps := 2000000, implicitDefEqProofs := false}) (disch := omega) only [↓reduceIte, go_sem, Int.reduceToNat, Nat.reduceAdd, Nat.reduceLeDiff, Nat.reduceEqDiff, Nat.reduceSub, Nat.reduceMul, reduceCtorEq]
  exact ⟨by simp, rfl⟩
theorem C47 (x y : Int) : Ctr Try.prog 47 [.int .i64 x, .int .i64 y] [] (ret [.int .i64 (c3 x y)]) := by
  apply ctr_b A47_ok rfl (Nat.le_of_ble_eq_true rfl)
  unfold A47
  simp only [initL, Nat.reduceAdd]
  simp (config := {maxSteps := 2000000, implicitDefEqProofs := false}) (disch := omega) only [↓reduceIte, go_sem, Int.reduceToNat, Nat.reduceAdd, Nat.reduceLeDiff, Nat.reduceEqDiff, Nat.reduceSub, Nat.reduceMul, reduceCtorEq]
  refine callL (C62 x) ?_
  simp (config := {maxSteps := 2000000, implicitDefEqProofs := false}) (disch := omega) only [↓reduceIte, go_sem, Int.reduceToNat, Nat.reduceAdd, Nat.reduceLeDiff, Nat.reduceEqDiff, Nat.reduceSub, Nat.reduceMul, reduceCtorEq]
  refine callL (C62 y) ?_
  simp (config := {maxSteps := 2000000, implicitDefEqProofs := false}) (disch := omega) only [↓reduceIte, go_sem, Int.reduceToNat, Nat.reduceAdd, Nat.reduceLeDiff, Nat.reduceEqDiff, Nat.reduceSub, Nat.reduceMul, reduceCtorEq]
  refine ifD (fun h => ?_) (fun h => ?_)
  · simp (config := {maxSteps := 2000000, implicitDefEqProofs := false}) (disch := omega) only [↓reduceIte, go_sem, Int.reduceToNat, Nat.reduceAdd, Nat.reduceLeDiff, Nat.reduceEqDiff, Nat.reduceSub, Nat.reduceMul, reduceCtorEq]
    exact ⟨by simp [c3, h], rfl⟩
  · simp (config := {maxSteps := 2000000, implicitDefEqProofs := false}) (disch := omega) only [↓reduceIte, go_sem, Int.reduceToNat, Nat.reduceAdd, Nat.reduceLeDiff, Nat.reduceEqDiff, Nat.reduceSub, Nat.reduceMul, reduceCtorEq]
    refine ifD (fun h2 => ?_) (fun h2 => ?_)
    · simp (config := {maxSteps := 2000000, implicitDefEqProofs := false}) (disch := omega) only [↓reduceIte, go_sem, Int.reduceToNat, Nat.reduceAdd, Nat.reduceLeDiff, Nat.reduceEqDiff, Nat.reduceSub, Nat.reduceMul, reduceCtorEq]
      exact ⟨by simp [c3, h, h2], rfl⟩
    · simp (config := {maxSteps := 2000000, implicitDefEqProofs := false}) (disch := omega) only [↓reduceIte, go_sem, Int.reduceToNat, Nat.reduceAdd, Nat.reduceLeDiff, Nat.reduceEqDiff, Nat.reduceSub, Nat.reduceMul, reduceCtorEq]
      exact ⟨by simp [c3, h, h2], rfl⟩
theorem enc_get {l : List Int} {i : Nat} (h : i < l.length) : Option.map encN l[i]? = some [.int .i64 l[i]!] := by simp [h, encN]
theorem orF_drop {l : List Int} {s : Nat} (h : s < l.length) (e : l[s]! = 0) : orF (l.drop s) = orF (l.drop (s + 1)) := by
  rw [List.drop_eq_getElem_cons h, orF, if_pos (by simpa [h] using e)]
theorem orF_hit {l : List Int} {s : Nat} (h : s < l.length) (e : l[s]! ≠ 0) : orF (l.drop s) = l[s]! := by
  rw [List.drop_eq_getElem_cons h, orF, if_neg (by simpa [h] using e)]
  simp [h]
theorem C46 (l : List Int) (hl : l.length < 1000000) : Ctr Try.prog 46 [.sl (l.map encN)] [] (ret [.int .i64 (orF l)]) := by
  apply ctr_b A46_ok rfl (Nat.le_of_ble_eq_true rfl)
  unfold A46
  simp only [initL, Nat.reduceAdd]
  simp (config := {maxSteps := 2000000, implicitDefEqProofs := false}) (disch := omega) only [↓reduceIte, go_sem, Int.reduceToNat, Nat.reduceAdd, Nat.reduceLeDiff, Nat.reduceEqDiff, Nat.reduceSub, Nat.reduceMul, reduceCtorEq]
  refine loopL (σ := Nat) (fun s => ⟨[(3, .int .i64 0), (6, .sl (l.map encN)), (7, .int .i64 l.length), (8, .int .i64 s)], []⟩) (fun s => s ≤ l.length ∧ orF l = orF (l.drop s)) (fun s => l.length - s) 0 (by simp (config := {maxSteps := 2000000, implicitDefEqProofs := false}) (disch := omega) only [↓reduceIte, go_sem, Int.reduceToNat, Nat.reduceAdd, Nat.reduceLeDiff, Nat.reduceEqDiff, Nat.reduceSub, Nat.reduceMul, reduceCtorEq]; rfl) ⟨by omega, rfl⟩ ?_
  rintro s ⟨h1, h2⟩
  simp (config := {maxSteps := 2000000, implicitDefEqProofs := false}) (disch := omega) only [↓reduceIte, go_sem, Int.reduceToNat, Nat.reduceAdd, Nat.reduceLeDiff, Nat.reduceEqDiff, Nat.reduceSub, Nat.reduceMul, reduceCtorEq]
  refine ifD (fun c => ?_) (fun c => ?_)
  · have hs : s < l.length := by omega
    have hg := enc_get hs
    simp (config := {maxSteps := 2000000, implicitDefEqProofs := false}) (disch := omega) only [↓reduceIte, go_sem, Int.reduceToNat, Nat.reduceAdd, Nat.reduceLeDiff, Nat.reduceEqDiff, Nat.reduceSub, Nat.reduceMul, reduceCtorEq, hg]
    refine ifE (fun h => ?_) (fun h => ?_)
    · simp (config := {maxSteps := 2000000, implicitDefEqProofs := false}) (disch := omega) only [↓reduceIte, go_sem, Int.reduceToNat, Nat.reduceAdd, Nat.reduceLeDiff, Nat.reduceEqDiff, Nat.reduceSub, Nat.reduceMul, reduceCtorEq]
      exact ⟨s + 1, by simp, ⟨by omega, by rw [h2, orF_drop hs h]⟩, by omega⟩
    · simp (config := {maxSteps := 2000000, implicitDefEqProofs := false}) (disch := omega) only [↓reduceIte, go_sem, Int.reduceToNat, Nat.reduceAdd, Nat.reduceLeDiff, Nat.reduceEqDiff, Nat.reduceSub, Nat.reduceMul, reduceCtorEq]
      exact ⟨by rw [h2, orF_hit hs h], rfl⟩
  · simp (config := {maxSteps := 2000000, implicitDefEqProofs := false}) (disch := omega) only [↓reduceIte, go_sem, Int.reduceToNat, Nat.reduceAdd, Nat.reduceLeDiff, Nat.reduceEqDiff, Nat.reduceSub, Nat.reduceMul, reduceCtorEq]
    refine ⟨?_, rfl⟩
    rw [h2, List.drop_eq_nil_of_le (by omega)]
    rfl
def keyS (s : Seg) : List Int := [s.v, s.fr, s.to, s.loc.kind, s.loc.cls, s.loc.n]
def cmpS (a b : Seg) : Int := lexC (keyS a) (keyS b)
theorem or_lex (a b : Seg) : orF [c3 a.v b.v, c3 a.fr b.fr, c3 a.to b.to, c3 a.loc.kind b.loc.kind, c3 a.loc.cls b.loc.cls, c3 a.loc.n b.loc.n] = cmpS a b := by
  simp only [orF, cmpS, keyS, lexC]
theorem C38 (a b : Seg) : Ctr Try.prog 38 [.agg (encS a), .agg (encS b)] [] (ret [.int .i64 (cmpS a b)]) := by
  rw [← or_lex]
  have h46 := C46 [c3 a.v b.v, c3 a.fr b.fr, c3 a.to b.to, c3 a.loc.kind b.loc.kind, c3 a.loc.cls b.loc.cls, c3 a.loc.n b.loc.n] (by simp)
  simp only [List.map_cons, List.map_nil, encN] at h46
  apply ctr_b A38_ok rfl (Nat.le_of_ble_eq_true rfl)
  unfold A38
  simp only [initL, Nat.reduceAdd]
  simp (config := {maxSteps := 2000000, implicitDefEqProofs := false}) (disch := omega) only [↓reduceIte, go_sem, Int.reduceToNat, Nat.reduceAdd, Nat.reduceLeDiff, Nat.reduceEqDiff, Nat.reduceSub, Nat.reduceMul, reduceCtorEq, encS]
  refine callL (C47 a.v b.v) ?_
  simp (config := {maxSteps := 2000000, implicitDefEqProofs := false}) (disch := omega) only [↓reduceIte, go_sem, Int.reduceToNat, Nat.reduceAdd, Nat.reduceLeDiff, Nat.reduceEqDiff, Nat.reduceSub, Nat.reduceMul, reduceCtorEq]
  refine callL (C47 a.fr b.fr) ?_
  simp (config := {maxSteps := 2000000, implicitDefEqProofs := false}) (disch := omega) only [↓reduceIte, go_sem, Int.reduceToNat, Nat.reduceAdd, Nat.reduceLeDiff, Nat.reduceEqDiff, Nat.reduceSub, Nat.reduceMul, reduceCtorEq]
  refine callL (C47 a.to b.to) ?_
  simp (config := {maxSteps := 2000000, implicitDefEqProofs := false}) (disch := omega) only [↓reduceIte, go_sem, Int.reduceToNat, Nat.reduceAdd, Nat.reduceLeDiff, Nat.reduceEqDiff, Nat.reduceSub, Nat.reduceMul, reduceCtorEq]
  refine callL (C47 a.loc.kind b.loc.kind) ?_
  simp (config := {maxSteps := 2000000, implicitDefEqProofs := false}) (disch := omega) only [↓reduceIte, go_sem, Int.reduceToNat, Nat.reduceAdd, Nat.reduceLeDiff, Nat.reduceEqDiff, Nat.reduceSub, Nat.reduceMul, reduceCtorEq]
  refine callL (C47 a.loc.cls b.loc.cls) ?_
  simp (config := {maxSteps := 2000000, implicitDefEqProofs := false}) (disch := omega) only [↓reduceIte, go_sem, Int.reduceToNat, Nat.reduceAdd, Nat.reduceLeDiff, Nat.reduceEqDiff, Nat.reduceSub, Nat.reduceMul, reduceCtorEq]
  refine callL (C47 a.loc.n b.loc.n) ?_
  simp (config := {maxSteps := 2000000, implicitDefEqProofs := false}) (disch := omega) only [↓reduceIte, go_sem, Int.reduceToNat, Nat.reduceAdd, Nat.reduceLeDiff, Nat.reduceEqDiff, Nat.reduceSub, Nat.reduceMul, reduceCtorEq]
  refine callL h46 ?_
  simp (config := {maxSteps := 2000000, implicitDefEqProofs := false}) (disch := omega) only [↓reduceIte, go_sem, Int.reduceToNat, Nat.reduceAdd, Nat.reduceLeDiff, Nat.reduceEqDiff, Nat.reduceSub, Nat.reduceMul, reduceCtorEq]
  refine accL (by kernel_rfl) ?_
  simp (config := {maxSteps := 2000000, implicitDefEqProofs := false}) (disch := omega) only [↓reduceIte, go_sem, Int.reduceToNat, Nat.reduceAdd, Nat.reduceLeDiff, Nat.reduceEqDiff, Nat.reduceSub, Nat.reduceMul, reduceCtorEq]
  exact ⟨rfl, rfl⟩
def ltS (a b : Seg) : Bool := decide (cmpS a b < 0)
theorem key_len (a b : Seg) : (keyS a).length = (keyS b).length := rfl
theorem key_inj {a b : Seg} (h : keyS a = keyS b) : a = b := by
  obtain ⟨v, fr, to, ⟨k, c, n⟩⟩ := a
  obtain ⟨v', fr', to', ⟨k', c', n'⟩⟩ := b
  simp only [keyS, List.cons.injEq, and_true] at h
  obtain ⟨rfl, rfl, rfl, rfl, rfl, rfl⟩ := h
  rfl
theorem cmp_anti (a b : Seg) : cmpS b a = - cmpS a b := lex_anti _ _
theorem swoS : Go.Sort.SWO ltS where
  irrefl x := by
    have := cmp_anti x x
    simp only [ltS, decide_eq_false_iff_not]
    omega
  trans x y z h1 h2 := by
    simp only [ltS, decide_eq_true_eq] at *
    exact (lex_trans (key_len x y) (key_len y z) (show cmpS x y ≤ 0 by omega) (show cmpS y z ≤ 0 by omega)).2 (.inl h1)
  ntrans x y z h1 h2 := by
    simp only [ltS, decide_eq_false_iff_not] at *
    have a1 := cmp_anti x y
    have a2 := cmp_anti y z
    have a3 := cmp_anti x z
    have := (lex_trans (key_len z y) (key_len y x) (show cmpS z y ≤ 0 by omega) (show cmpS y x ≤ 0 by omega)).1
    have : cmpS z x ≤ 0 := this
    omega
theorem lt_tot {x y : Seg} (h1 : ltS x y = false) (h2 : ltS y x = false) : x = y := by
  simp only [ltS, decide_eq_false_iff_not] at *
  have a1 := cmp_anti x y
  exact key_inj (lex_eq (key_len x y) (show cmpS x y = 0 by omega))
end Go.Proofs.Ytpmabjkjolhilaa.X
namespace Go.Proofs.Ytpmabjkjolhilaa.X
open Go Go.AM Go.Proofs
attribute [local go_sem ↓] w_skip w_lbl w_ops w_draw w_pre w_post w_alt w_seq w_cond w_block w_join w_loop w_exit w_ret w_scope w_rfunc l_nil l_cons th_n th_e th_r bk_n bk_r bk_e t_nil t_it t_call i_nil i_one i_grp s_nil s_cons c_call e_mv e_nil e_frz o_mov o_bin o_eq o_un o_conv o_len o_slen o_idx o_aix o_fad o_load o_store o_boxp o_boxo o_boxm o_alloc o_alloca o_nilarr o_build o_bslp o_bslo o_slc o_sslc o_slc3 o_sidx o_mkfn o_ext o_pick o_callf o_callb o_appd o_clear o_mxn o_field o_nilc o_make o_buildm o_boxg o_mkif o_tass o_eqs o_callo k_int k_str k_bool k_grb k_grt k_some k_none k_arr k_lens k_lenf k_lenh k_idxs k_idxf k_idxh k_ld k_loadp k_loadr k_loade k_storer k_storee k_oin k_ois k_slcs k_slcf k_slch k_slc3s k_slc3f k_slc3h k_app2 k_apps k_appf k_apph k_cals k_cald k_cali k_cnb k_cna k_esn k_esc k_efn k_efc k_esh b_add b_sub b_mul b_quo b_rem b_and b_or b_xor b_andNot b_eql b_neq b_lss b_leq b_gtr b_geq b_shl b_shr b_seq b_sne b_slt b_sad q_bool q_str q_nil q_nilf u_not u_neg u_xor f_ret f_nor v_r v_c v_reg v_ob v_set v_put v_so v_sn v_pn v_pc g_nil d_nil p_nil m_mv m_fr z_nil z_cons z_an z_ac g_cons d_cons p_cons y_mov y_bin y_eq y_un y_conv y_len y_slen y_idx y_aix y_fad y_load y_store y_boxp y_boxo y_boxm y_alloc y_alloca y_nilarr y_build y_bslp y_bslo y_slc y_sslc y_slc3 y_sidx y_mkfn y_ext y_pick y_callf y_callb y_appd y_clear y_mxn y_field y_nilc y_make y_buildm y_boxg y_mkif y_tass y_eqs y_callo nb_if
attribute [local go_sem] VL_mk VL2_mk If_t If_f If_not If_and If_or If_dt If_df If_et If_ef If_ne Ck_t Ck_h Opt_s ld_a ld_c renL ren keepR renA idxM invL getObs mapOb renOb allNone putAll fzR fzO fz fzL fzOb frzOk upFrom mapR resOne resA cellsOf oneA oneAL isP isPL okSt kRows kParts fillA setAt bor bor0 bor1 bor2 borC borI key0 key1 key2 keysA fillM cellsM cellM unif ptrA ifOk kPartsM getObsM allNoneM zipU scal0 scalar eqC evNil evNilF List.map_cons List.map_nil List.cons_append List.nil_append List.append_nil List.drop_zero List.drop_succ_cons List.drop_nil List.take_succ_cons List.take_zero List.take_nil List.length_cons List.length_nil List.length_map List.getElem?_map Option.map_some Option.map_none Int.toNat_natCast Int.toNat_zero Int.toNat_one Int.natCast_nonneg List.flatMap_cons List.flatMap_nil List.all_cons List.all_nil Bool.and_true Bool.true_and Bool.and_false Bool.false_and Bool.not_true Bool.not_false beq_self_eq_true nb_self all_nil List.forall_mem_cons tk_map tk_app bs_self bs_dec bq_t bq_f Bool.not_not decide_true decide_false Bool.not_not and_self and_true true_and eq_self List.reverse_cons List.reverse_nil List.getElem?_cons_zero List.getElem?_cons_succ cond_true cond_false List.set_cons_zero List.set_cons_succ Nat.zero_add Nat.add_zero if_true if_false ite_true ite_false implies_true wrap64 wrap8
set_option linter.unusedVariables false
set_option linter.unusedSimpArgs false
set_option maxRecDepth 10000
set_option maxHeartbeats 8000000
open Go.Sort in
/-- The row. -/
abbrev cF : AV := .fn 38 []
def rowD (v : Nat) (d : Array Seg) : List Ob := [.arr v 6 (d.toList.map encS)]
theorem rdD {d : Array Seg} {i : Nat} (h : i < d.size) : Option.map encS d.toList[i]? = some (encS d[i]!) := by simp [h]
theorem wrD {d : Array Seg} {i j : Nat} (hi : i < d.size) (hj : j < d.size) : ((d.toList.map encS).set i (encS d[j]!))[j]? = some (encS d[j]!) ∧ ((d.toList.map encS).set i (encS d[j]!)).set j (encS d[i]!) = (Go.Sort.swp d i j).toList.map encS := by
  constructor
  · rw [List.getElem?_set]
    split
    · rw [if_pos (by simpa using hi)]
    · rw [List.getElem?_map, rdD hj]
  · simp only [Go.Sort.swp, Array.toList_setIfInBounds, List.map_set]
theorem insInner_stop {a j : Nat} {d : Array Seg} (h : j > a → ltS d[j]! d[j - 1]! = false) : Go.Sort.insInner ltS a j d = d := by
  cases j with
  | zero => rfl
  | succ j =>
    rw [Go.Sort.insInner, if_neg]
    intro hc
    simp only [Bool.and_eq_true, decide_eq_true_eq] at hc
    have := h hc.1
    rw [Nat.add_sub_cancel] at this
    rw [this] at hc
    cases hc.2
theorem insInner_go {a j : Nat} {d : Array Seg} (h : j > a) (h2 : ltS d[j]! d[j - 1]! = true) : Go.Sort.insInner ltS a j d = Go.Sort.insInner ltS a (j - 1) (Go.Sort.swp d j (j - 1)) := by
  cases j with
  | zero => omega
  | succ j =>
    rw [Nat.add_sub_cancel] at h2 ⊢
    rw [Go.Sort.insInner, if_pos (by simp [h, h2])]
theorem C68 (v : Nat) (d : Array Seg) (a b L : Nat) (x y : Int) (ex : x = a) (ey : y = b) (eL : L = d.size) (hb : b ≤ d.size) (hl : d.size < 1000000) (ha : a < 1000000) :
    Ctr Try.prog 68 [.hs 0 v 0 L, .int .i64 x, .int .i64 y, cF] (rowD v d) (retO [] (rowD v (Go.Sort.insertionSort ltS d a b))) := by
  subst ex ey eL
  apply ctr_b A68_ok rfl (Nat.le_of_ble_eq_true rfl)
  unfold A68
  simp only [rowD, initL, Nat.reduceAdd]
  simp (config := {maxSteps := 2000000, implicitDefEqProofs := false}) (disch := omega) only [↓reduceIte, go_sem, Int.reduceToNat, Nat.reduceAdd, Nat.reduceLeDiff, Nat.reduceEqDiff, Nat.reduceSub, Nat.reduceMul, reduceCtorEq]
  refine loopL (σ := Nat × Array Seg) (fun s => ⟨[(0, .hs 0 v 0 d.size), (1, .int .i64 a), (2, .int .i64 b), (3, cF), (8, .int .i64 s.1)], [(0, .arr v 6 (s.2.toList.map encS))]⟩)
    (fun s => a + 1 ≤ s.1 ∧ (s.1 ≤ b ∨ s.1 = a + 1) ∧ s.2.size = d.size ∧ Go.Sort.insOuter ltS a b s.1 s.2 = Go.Sort.insertionSort ltS d a b) (fun s => b - s.1) (a + 1, d) (by simp (config := {maxSteps := 2000000, implicitDefEqProofs := false}) (disch := omega) only [↓reduceIte, go_sem, Int.reduceToNat, Nat.reduceAdd, Nat.reduceLeDiff, Nat.reduceEqDiff, Nat.reduceSub, Nat.reduceMul, reduceCtorEq]; rfl) ⟨Nat.le_refl _, .inr rfl, rfl, rfl⟩ ?_
  rintro ⟨i, d1⟩ ⟨h1, h2, h3, h4⟩
  simp only at h1 h2 h3 h4
  simp (config := {maxSteps := 2000000, implicitDefEqProofs := false}) (disch := omega) only [↓reduceIte, go_sem, Int.reduceToNat, Nat.reduceAdd, Nat.reduceLeDiff, Nat.reduceEqDiff, Nat.reduceSub, Nat.reduceMul, reduceCtorEq]
  refine ifD (fun g => ?_) (fun g => ?_)
  · have hib : i < b := by omega
    rw [Go.Sort.insOuter, if_pos hib] at h4
    simp (config := {maxSteps := 2000000, implicitDefEqProofs := false}) (disch := omega) only [↓reduceIte, go_sem, Int.reduceToNat, Nat.reduceAdd, Nat.reduceLeDiff, Nat.reduceEqDiff, Nat.reduceSub, Nat.reduceMul, reduceCtorEq]
    refine loopL (σ := Nat × Array Seg) (fun s => ⟨[(0, .hs 0 v 0 d.size), (1, .int .i64 a), (2, .int .i64 b), (3, cF), (8, .int .i64 i), (9, .int .i64 s.1)], [(0, .arr v 6 (s.2.toList.map encS))]⟩)
      (fun s => a ≤ s.1 ∧ s.1 ≤ i ∧ s.2.size = d.size ∧ Go.Sort.insInner ltS a s.1 s.2 = Go.Sort.insInner ltS a i d1) (fun s => s.1) (i, d1) (by simp (config := {maxSteps := 2000000, implicitDefEqProofs := false}) (disch := omega) only [↓reduceIte, go_sem, Int.reduceToNat, Nat.reduceAdd, Nat.reduceLeDiff, Nat.reduceEqDiff, Nat.reduceSub, Nat.reduceMul, reduceCtorEq]) ⟨by simp only; omega, Nat.le_refl _, h3, rfl⟩ ?_
    rintro ⟨j, d2⟩ ⟨k1, k2, k3, k4⟩
    simp only at k1 k2 k3 k4
    have b1 := rdD (d := d2) (show j < d2.size by omega)
    simp only [encS] at b1
    simp (config := {maxSteps := 2000000, implicitDefEqProofs := false}) (disch := omega) only [↓reduceIte, go_sem, Int.reduceToNat, Nat.reduceAdd, Nat.reduceLeDiff, Nat.reduceEqDiff, Nat.reduceSub, Nat.reduceMul, reduceCtorEq]
    refine ifD (fun g2 => ?_) (fun g2 => ?_)
    · have hja : a < j := by omega
      have b2 := rdD (d := d2) (show j - 1 < d2.size by omega)
      have t1 : ((j : Int) - 1).toNat = j - 1 := by omega
      simp only [encS] at b2
      simp (config := {maxSteps := 2000000, implicitDefEqProofs := false}) (disch := omega) only [↓reduceIte, go_sem, Int.reduceToNat, Nat.reduceAdd, Nat.reduceLeDiff, Nat.reduceEqDiff, Nat.reduceSub, Nat.reduceMul, reduceCtorEq, t1, b1, b2]
      refine callL (C38 d2[j]! d2[j - 1]!) ?_
      simp (config := {maxSteps := 2000000, implicitDefEqProofs := false}) (disch := omega) only [↓reduceIte, go_sem, Int.reduceToNat, Nat.reduceAdd, Nat.reduceLeDiff, Nat.reduceEqDiff, Nat.reduceSub, Nat.reduceMul, reduceCtorEq]
      refine accL (by kernel_rfl) ?_
      simp (config := {maxSteps := 2000000, implicitDefEqProofs := false}) (disch := omega) only [↓reduceIte, go_sem, Int.reduceToNat, Nat.reduceAdd, Nat.reduceLeDiff, Nat.reduceEqDiff, Nat.reduceSub, Nat.reduceMul, reduceCtorEq]
      refine ifD (fun g3 => ?_) (fun g3 => ?_)
      · have hw_e1 := wrD (d := d2) (i := j) (j := j - 1) (by omega) (by omega)
        have e1 := hw_e1.1
        have e2 := hw_e1.2
        simp only [encS] at e1 e2
        simp (config := {maxSteps := 2000000, implicitDefEqProofs := false}) (disch := omega) only [↓reduceIte, go_sem, Int.reduceToNat, Nat.reduceAdd, Nat.reduceLeDiff, Nat.reduceEqDiff, Nat.reduceSub, Nat.reduceMul, reduceCtorEq, t1, b1, b2, e1, e2]
        refine accL (by kernel_rfl) ?_
        simp (config := {maxSteps := 2000000, implicitDefEqProofs := false}) (disch := omega) only [↓reduceIte, go_sem, Int.reduceToNat, Nat.reduceAdd, Nat.reduceLeDiff, Nat.reduceEqDiff, Nat.reduceSub, Nat.reduceMul, reduceCtorEq, t1, b1, b2, e1, e2]
        refine ⟨(j - 1, Go.Sort.swp d2 j (j - 1)), ?_, ⟨by simp only; omega, by simp only; omega, by rw [Go.Sort.size_swp]; exact k3, ?_⟩, by simp only; omega⟩
        · have : ((j - 1 : Nat) : Int) = (j : Int) - 1 := by omega
          simp [this]
        · exact (insInner_go (by omega) (by simpa [ltS] using g3)).symm.trans k4
      · simp (config := {maxSteps := 2000000, implicitDefEqProofs := false}) (disch := omega) only [↓reduceIte, go_sem, Int.reduceToNat, Nat.reduceAdd, Nat.reduceLeDiff, Nat.reduceEqDiff, Nat.reduceSub, Nat.reduceMul, reduceCtorEq]
        refine ⟨(i + 1, d2), by simp, ⟨by simp only; omega, by simp only; omega, k3, ?_⟩, by simp only; omega⟩
        rw [← h4, ← k4, insInner_stop fun _ => by simpa [ltS] using g3]
    · simp (config := {maxSteps := 2000000, implicitDefEqProofs := false}) (disch := omega) only [↓reduceIte, go_sem, Int.reduceToNat, Nat.reduceAdd, Nat.reduceLeDiff, Nat.reduceEqDiff, Nat.reduceSub, Nat.reduceMul, reduceCtorEq]
      refine accL (by kernel_rfl) ?_
      simp (config := {maxSteps := 2000000, implicitDefEqProofs := false}) (disch := omega) only [↓reduceIte, go_sem, Int.reduceToNat, Nat.reduceAdd, Nat.reduceLeDiff, Nat.reduceEqDiff, Nat.reduceSub, Nat.reduceMul, reduceCtorEq]
      refine ⟨(i + 1, d2), by simp, ⟨by simp only; omega, by simp only; omega, k3, ?_⟩, by simp only; omega⟩
      rw [← h4, ← k4, insInner_stop fun h => absurd h (by omega)]
  · simp (config := {maxSteps := 2000000, implicitDefEqProofs := false}) (disch := omega) only [↓reduceIte, go_sem, Int.reduceToNat, Nat.reduceAdd, Nat.reduceLeDiff, Nat.reduceEqDiff, Nat.reduceSub, Nat.reduceMul, reduceCtorEq]
    rw [Go.Sort.insOuter, if_neg (by omega)] at h4
    rw [← h4]
    exact ⟨rfl, rfl⟩
def sifC (hi first root : Nat) (d : Array Seg) : Nat := if 2 * root + 2 < hi ∧ ltS d[first + (2 * root + 1)]! d[first + (2 * root + 2)]! = true then 2 * root + 2 else 2 * root + 1
theorem sift_stop {hi first root : Nat} {d : Array Seg} (h : 2 * root + 1 ≥ hi ∨ ltS d[first + root]! d[first + sifC hi first root d]! = false) : Go.Sort.siftDown ltS hi first root d = d := by
  rw [Go.Sort.siftDown]
  by_cases h1 : 2 * root + 1 ≥ hi
  · rw [dif_pos h1]
  · rw [dif_neg h1]
    have h2 := h.resolve_left h1
    unfold sifC at h2
    have e : first + (2 * root + 1) + 1 = first + (2 * root + 2) := by omega
    simp only [e]
    split at h2
    · rename_i hc
      rw [if_pos (by simpa using hc), if_pos (by rw [h2]; rfl)]
    · rename_i hc
      rw [if_neg (by simpa using hc), if_pos (by rw [h2]; rfl)]
theorem sift_go {hi first root : Nat} {d : Array Seg} (h1 : 2 * root + 1 < hi) (h2 : ltS d[first + root]! d[first + sifC hi first root d]! = true) : Go.Sort.siftDown ltS hi first root d = Go.Sort.siftDown ltS hi first (sifC hi first root d) (Go.Sort.swp d (first + root) (first + sifC hi first root d)) := by
  rw [Go.Sort.siftDown, dif_neg (by omega)]
  unfold sifC at h2 ⊢
  have e : first + (2 * root + 1) + 1 = first + (2 * root + 2) := by omega
  simp only [e]
  split at h2
  · rename_i hc
    rw [if_pos (by simpa using hc), if_neg (by rw [h2]; simp), dif_pos hc.1, if_pos hc]
  · rename_i hc
    rw [if_neg (by simpa using hc), if_neg (by rw [h2]; simp), if_neg hc]
theorem C77 (v : Nat) (d : Array Seg) (lo hi first L : Nat) (x y z : Int) (ex : x = lo) (ey : y = hi) (ez : z = first) (eL : L = d.size) (hb : first + hi ≤ d.size) (hl : d.size < 1000000) (hlo : lo < 1000000) :
    Ctr Try.prog 77 [.hs 0 v 0 L, .int .i64 x, .int .i64 y, .int .i64 z, cF] (rowD v d) (retO [] (rowD v (Go.Sort.siftDown ltS hi first lo d))) := by
  subst ex ey ez eL
  apply ctr_b A77_ok rfl (Nat.le_of_ble_eq_true rfl)
  unfold A77
  simp only [rowD, initL, Nat.reduceAdd]
  simp (config := {maxSteps := 2000000, implicitDefEqProofs := false}) (disch := omega) only [↓reduceIte, go_sem, Int.reduceToNat, Nat.reduceAdd, Nat.reduceLeDiff, Nat.reduceEqDiff, Nat.reduceSub, Nat.reduceMul, reduceCtorEq]
  refine loopL (σ := Nat × Array Seg) (fun s => ⟨[(0, .hs 0 v 0 d.size), (2, .int .i64 hi), (3, .int .i64 first), (4, cF), (10, .int .i64 s.1)], [(0, .arr v 6 (s.2.toList.map encS))]⟩)
    (fun s => s.1 < 1000000 ∧ s.2.size = d.size ∧ Go.Sort.siftDown ltS hi first s.1 s.2 = Go.Sort.siftDown ltS hi first lo d) (fun s => hi - s.1) (lo, d) (by simp (config := {maxSteps := 2000000, implicitDefEqProofs := false}) (disch := omega) only [↓reduceIte, go_sem, Int.reduceToNat, Nat.reduceAdd, Nat.reduceLeDiff, Nat.reduceEqDiff, Nat.reduceSub, Nat.reduceMul, reduceCtorEq]) ⟨hlo, rfl, rfl⟩ ?_
  rintro ⟨r, d1⟩ ⟨h1, h2, h3⟩
  simp only at h1 h2 h3
  simp (config := {maxSteps := 2000000, implicitDefEqProofs := false}) (disch := omega) only [↓reduceIte, go_sem, Int.reduceToNat, Nat.reduceAdd, Nat.reduceLeDiff, Nat.reduceEqDiff, Nat.reduceSub, Nat.reduceMul, reduceCtorEq]
  refine ifD (fun g => ?_) (fun g => ?_)
  · simp (config := {maxSteps := 2000000, implicitDefEqProofs := false}) (disch := omega) only [↓reduceIte, go_sem, Int.reduceToNat, Nat.reduceAdd, Nat.reduceLeDiff, Nat.reduceEqDiff, Nat.reduceSub, Nat.reduceMul, reduceCtorEq]
    rw [sift_stop (.inl (by omega))] at h3
    rw [← h3]
    exact ⟨rfl, rfl⟩
  · have hc : 2 * r + 1 < hi := by omega
    have t0 : ((first : Int) + r).toNat = first + r := by omega
    have t1 : ((first : Int) + (2 * (r : Int) + 1)).toNat = first + (2 * r + 1) := by omega
    have b0 := rdD (d := d1) (show first + r < d1.size by omega)
    have b1 := rdD (d := d1) (show first + (2 * r + 1) < d1.size by omega)
    have hw_e1 := wrD (d := d1) (i := first + r) (j := first + (2 * r + 1)) (by omega) (by omega)
    have e1 := hw_e1.1
    have e2 := hw_e1.2
    simp only [encS] at b0 b1 e1 e2
    have fin1 : sifC hi first r d1 = 2 * r + 1 → (ltS d1[first + r]! d1[first + (2 * r + 1)]! = true → Go.Sort.siftDown ltS hi first (2 * r + 1) (Go.Sort.swp d1 (first + r) (first + (2 * r + 1))) = Go.Sort.siftDown ltS hi first lo d) ∧ (ltS d1[first + r]! d1[first + (2 * r + 1)]! = false → d1 = Go.Sort.siftDown ltS hi first lo d) := fun e =>
      ⟨fun h => by rw [← h3, sift_go hc (by rw [e]; exact h), e], fun h => by rw [← h3, sift_stop (.inr (by rw [e]; exact h))]⟩
    simp (config := {maxSteps := 2000000, implicitDefEqProofs := false}) (disch := omega) only [↓reduceIte, go_sem, Int.reduceToNat, Nat.reduceAdd, Nat.reduceLeDiff, Nat.reduceEqDiff, Nat.reduceSub, Nat.reduceMul, reduceCtorEq]
    refine ifD (fun g1 => ?_) (fun g1 => ?_)
    · have hc2 : 2 * r + 2 < hi := by omega
      have t2 : ((first : Int) + (2 * (r : Int) + 1) + 1).toNat = first + (2 * r + 2) := by omega
      have t3 : ((first : Int) + (2 * (r : Int) + 1 + 1)).toNat = first + (2 * r + 2) := by omega
      have b2 := rdD (d := d1) (show first + (2 * r + 2) < d1.size by omega)
      have hw_f1 := wrD (d := d1) (i := first + r) (j := first + (2 * r + 2)) (by omega) (by omega)
      have f1 := hw_f1.1
      have f2 := hw_f1.2
      simp only [encS] at b2 f1 f2
      simp (config := {maxSteps := 2000000, implicitDefEqProofs := false}) (disch := omega) only [↓reduceIte, go_sem, Int.reduceToNat, Nat.reduceAdd, Nat.reduceLeDiff, Nat.reduceEqDiff, Nat.reduceSub, Nat.reduceMul, reduceCtorEq, t1, t2, b1, b2]
      refine callL (C38 d1[first + (2 * r + 1)]! d1[first + (2 * r + 2)]!) ?_
      simp (config := {maxSteps := 2000000, implicitDefEqProofs := false}) (disch := omega) only [↓reduceIte, go_sem, Int.reduceToNat, Nat.reduceAdd, Nat.reduceLeDiff, Nat.reduceEqDiff, Nat.reduceSub, Nat.reduceMul, reduceCtorEq]
      refine accL (by kernel_rfl) ?_
      simp (config := {maxSteps := 2000000, implicitDefEqProofs := false}) (disch := omega) only [↓reduceIte, go_sem, Int.reduceToNat, Nat.reduceAdd, Nat.reduceLeDiff, Nat.reduceEqDiff, Nat.reduceSub, Nat.reduceMul, reduceCtorEq]
      refine ifD (fun g2 => ?_) (fun g2 => ?_)
      · have hs : sifC hi first r d1 = 2 * r + 2 := by unfold sifC; rw [if_pos ⟨hc2, by simpa [ltS] using g2⟩]
        simp (config := {maxSteps := 2000000, implicitDefEqProofs := false}) (disch := omega) only [↓reduceIte, go_sem, Int.reduceToNat, Nat.reduceAdd, Nat.reduceLeDiff, Nat.reduceEqDiff, Nat.reduceSub, Nat.reduceMul, reduceCtorEq, t0, t3, b0, b2]
        refine callL (C38 d1[first + r]! d1[first + (2 * r + 2)]!) ?_
        simp (config := {maxSteps := 2000000, implicitDefEqProofs := false}) (disch := omega) only [↓reduceIte, go_sem, Int.reduceToNat, Nat.reduceAdd, Nat.reduceLeDiff, Nat.reduceEqDiff, Nat.reduceSub, Nat.reduceMul, reduceCtorEq]
        refine accL (by kernel_rfl) ?_
        simp (config := {maxSteps := 2000000, implicitDefEqProofs := false}) (disch := omega) only [↓reduceIte, go_sem, Int.reduceToNat, Nat.reduceAdd, Nat.reduceLeDiff, Nat.reduceEqDiff, Nat.reduceSub, Nat.reduceMul, reduceCtorEq]
        refine ifD (fun g3 => ?_) (fun g3 => ?_)
        · simp (config := {maxSteps := 2000000, implicitDefEqProofs := false}) (disch := omega) only [↓reduceIte, go_sem, Int.reduceToNat, Nat.reduceAdd, Nat.reduceLeDiff, Nat.reduceEqDiff, Nat.reduceSub, Nat.reduceMul, reduceCtorEq, t0, t3, b0, b2, f1, f2]
          refine accL (by kernel_rfl) ?_
          simp (config := {maxSteps := 2000000, implicitDefEqProofs := false}) (disch := omega) only [↓reduceIte, go_sem, Int.reduceToNat, Nat.reduceAdd, Nat.reduceLeDiff, Nat.reduceEqDiff, Nat.reduceSub, Nat.reduceMul, reduceCtorEq, t0, t3, b0, b2, f1, f2]
          refine ⟨(2 * r + 2, Go.Sort.swp d1 (first + r) (first + (2 * r + 2))), ?_, ⟨by simp only; omega, by rw [Go.Sort.size_swp]; exact h2, ?_⟩, by simp only; omega⟩
          · have : ((2 * r + 2 : Nat) : Int) = 2 * (r : Int) + 1 + 1 := by omega
            simp only [this]
          · rw [← h3, sift_go hc (by rw [hs]; simpa [ltS] using g3), hs]
        · simp (config := {maxSteps := 2000000, implicitDefEqProofs := false}) (disch := omega) only [↓reduceIte, go_sem, Int.reduceToNat, Nat.reduceAdd, Nat.reduceLeDiff, Nat.reduceEqDiff, Nat.reduceSub, Nat.reduceMul, reduceCtorEq]
          rw [sift_stop (.inr (by rw [hs]; simpa [ltS] using g3))] at h3
          rw [← h3]
          exact ⟨rfl, rfl⟩
      · have hs : sifC hi first r d1 = 2 * r + 1 := by unfold sifC; rw [if_neg (by intro h; exact absurd h.2 (by simpa [ltS] using g2))]
        have q1 := (fin1 hs).1
        have q2 := (fin1 hs).2
        simp (config := {maxSteps := 2000000, implicitDefEqProofs := false}) (disch := omega) only [↓reduceIte, go_sem, Int.reduceToNat, Nat.reduceAdd, Nat.reduceLeDiff, Nat.reduceEqDiff, Nat.reduceSub, Nat.reduceMul, reduceCtorEq, t0, t1, b0, b1]
        refine callL (C38 d1[first + r]! d1[first + (2 * r + 1)]!) ?_
        simp (config := {maxSteps := 2000000, implicitDefEqProofs := false}) (disch := omega) only [↓reduceIte, go_sem, Int.reduceToNat, Nat.reduceAdd, Nat.reduceLeDiff, Nat.reduceEqDiff, Nat.reduceSub, Nat.reduceMul, reduceCtorEq]
        refine accL (by kernel_rfl) ?_
        simp (config := {maxSteps := 2000000, implicitDefEqProofs := false}) (disch := omega) only [↓reduceIte, go_sem, Int.reduceToNat, Nat.reduceAdd, Nat.reduceLeDiff, Nat.reduceEqDiff, Nat.reduceSub, Nat.reduceMul, reduceCtorEq]
        refine ifD (fun g3 => ?_) (fun g3 => ?_)
        · simp (config := {maxSteps := 2000000, implicitDefEqProofs := false}) (disch := omega) only [↓reduceIte, go_sem, Int.reduceToNat, Nat.reduceAdd, Nat.reduceLeDiff, Nat.reduceEqDiff, Nat.reduceSub, Nat.reduceMul, reduceCtorEq, t0, t1, b0, b1, e1, e2]
          refine accL (by kernel_rfl) ?_
          simp (config := {maxSteps := 2000000, implicitDefEqProofs := false}) (disch := omega) only [↓reduceIte, go_sem, Int.reduceToNat, Nat.reduceAdd, Nat.reduceLeDiff, Nat.reduceEqDiff, Nat.reduceSub, Nat.reduceMul, reduceCtorEq, t0, t1, b0, b1, e1, e2]
          refine ⟨(2 * r + 1, Go.Sort.swp d1 (first + r) (first + (2 * r + 1))), ?_, ⟨by simp only; omega, by rw [Go.Sort.size_swp]; exact h2, q1 (by simpa [ltS] using g3)⟩, by simp only; omega⟩
          have : ((2 * r + 1 : Nat) : Int) = 2 * (r : Int) + 1 := by omega
          simp only [this]
        · simp (config := {maxSteps := 2000000, implicitDefEqProofs := false}) (disch := omega) only [↓reduceIte, go_sem, Int.reduceToNat, Nat.reduceAdd, Nat.reduceLeDiff, Nat.reduceEqDiff, Nat.reduceSub, Nat.reduceMul, reduceCtorEq]
          rw [← q2 (by simpa [ltS] using g3)]
          exact ⟨rfl, rfl⟩
    · have hs : sifC hi first r d1 = 2 * r + 1 := by unfold sifC; rw [if_neg (by intro h; omega)]
      have q1 := (fin1 hs).1
      have q2 := (fin1 hs).2
      simp (config := {maxSteps := 2000000, implicitDefEqProofs := false}) (disch := omega) only [↓reduceIte, go_sem, Int.reduceToNat, Nat.reduceAdd, Nat.reduceLeDiff, Nat.reduceEqDiff, Nat.reduceSub, Nat.reduceMul, reduceCtorEq]
      refine accL (by kernel_rfl) ?_
      simp (config := {maxSteps := 2000000, implicitDefEqProofs := false}) (disch := omega) only [↓reduceIte, go_sem, Int.reduceToNat, Nat.reduceAdd, Nat.reduceLeDiff, Nat.reduceEqDiff, Nat.reduceSub, Nat.reduceMul, reduceCtorEq, t0, t1, b0, b1]
      refine callL (C38 d1[first + r]! d1[first + (2 * r + 1)]!) ?_
      simp (config := {maxSteps := 2000000, implicitDefEqProofs := false}) (disch := omega) only [↓reduceIte, go_sem, Int.reduceToNat, Nat.reduceAdd, Nat.reduceLeDiff, Nat.reduceEqDiff, Nat.reduceSub, Nat.reduceMul, reduceCtorEq]
      refine accL (by kernel_rfl) ?_
      simp (config := {maxSteps := 2000000, implicitDefEqProofs := false}) (disch := omega) only [↓reduceIte, go_sem, Int.reduceToNat, Nat.reduceAdd, Nat.reduceLeDiff, Nat.reduceEqDiff, Nat.reduceSub, Nat.reduceMul, reduceCtorEq]
      refine ifD (fun g3 => ?_) (fun g3 => ?_)
      · simp (config := {maxSteps := 2000000, implicitDefEqProofs := false}) (disch := omega) only [↓reduceIte, go_sem, Int.reduceToNat, Nat.reduceAdd, Nat.reduceLeDiff, Nat.reduceEqDiff, Nat.reduceSub, Nat.reduceMul, reduceCtorEq, t0, t1, b0, b1, e1, e2]
        refine accL (by kernel_rfl) ?_
        simp (config := {maxSteps := 2000000, implicitDefEqProofs := false}) (disch := omega) only [↓reduceIte, go_sem, Int.reduceToNat, Nat.reduceAdd, Nat.reduceLeDiff, Nat.reduceEqDiff, Nat.reduceSub, Nat.reduceMul, reduceCtorEq, t0, t1, b0, b1, e1, e2]
        refine ⟨(2 * r + 1, Go.Sort.swp d1 (first + r) (first + (2 * r + 1))), ?_, ⟨by simp only; omega, by rw [Go.Sort.size_swp]; exact h2, q1 (by simpa [ltS] using g3)⟩, by simp only; omega⟩
        have : ((2 * r + 1 : Nat) : Int) = 2 * (r : Int) + 1 := by omega
        simp only [this]
      · simp (config := {maxSteps := 2000000, implicitDefEqProofs := false}) (disch := omega) only [↓reduceIte, go_sem, Int.reduceToNat, Nat.reduceAdd, Nat.reduceLeDiff, Nat.reduceEqDiff, Nat.reduceSub, Nat.reduceMul, reduceCtorEq]
        rw [← q2 (by simpa [ltS] using g3)]
        exact ⟨rfl, rfl⟩

end Go.Proofs.Ytpmabjkjolhilaa.X
namespace Go.Proofs.Ytpmabjkjolhilaa.X
open Go Go.AM Go.Proofs
attribute [local go_sem ↓] w_skip w_lbl w_ops w_draw w_pre w_post w_alt w_seq w_cond w_block w_join w_loop w_exit w_ret w_scope w_rfunc l_nil l_cons th_n th_e th_r bk_n bk_r bk_e t_nil t_it t_call i_nil i_one i_grp s_nil s_cons c_call e_mv e_nil e_frz o_mov o_bin o_eq o_un o_conv o_len o_slen o_idx o_aix o_fad o_load o_store o_boxp o_boxo o_boxm o_alloc o_alloca o_nilarr o_build o_bslp o_bslo o_slc o_sslc o_slc3 o_sidx o_mkfn o_ext o_pick o_callf o_callb o_appd o_clear o_mxn o_field o_nilc o_make o_buildm o_boxg o_mkif o_tass o_eqs o_callo k_int k_str k_bool k_grb k_grt k_some k_none k_arr k_lens k_lenf k_lenh k_idxs k_idxf k_idxh k_ld k_loadp k_loadr k_loade k_storer k_storee k_oin k_ois k_slcs k_slcf k_slch k_slc3s k_slc3f k_slc3h k_app2 k_apps k_appf k_apph k_cals k_cald k_cali k_cnb k_cna k_esn k_esc k_efn k_efc k_esh b_add b_sub b_mul b_quo b_rem b_and b_or b_xor b_andNot b_eql b_neq b_lss b_leq b_gtr b_geq b_shl b_shr b_seq b_sne b_slt b_sad q_bool q_str q_nil q_nilf u_not u_neg u_xor f_ret f_nor v_r v_c v_reg v_ob v_set v_put v_so v_sn v_pn v_pc g_nil d_nil p_nil m_mv m_fr z_nil z_cons z_an z_ac g_cons d_cons p_cons y_mov y_bin y_eq y_un y_conv y_len y_slen y_idx y_aix y_fad y_load y_store y_boxp y_boxo y_boxm y_alloc y_alloca y_nilarr y_build y_bslp y_bslo y_slc y_sslc y_slc3 y_sidx y_mkfn y_ext y_pick y_callf y_callb y_appd y_clear y_mxn y_field y_nilc y_make y_buildm y_boxg y_mkif y_tass y_eqs y_callo nb_if
attribute [local go_sem] VL_mk VL2_mk If_t If_f If_not If_and If_or If_dt If_df If_et If_ef If_ne Ck_t Ck_h Opt_s ld_a ld_c renL ren keepR renA idxM invL getObs mapOb renOb allNone putAll fzR fzO fz fzL fzOb frzOk upFrom mapR resOne resA cellsOf oneA oneAL isP isPL okSt kRows kParts fillA setAt bor bor0 bor1 bor2 borC borI key0 key1 key2 keysA fillM cellsM cellM unif ptrA ifOk kPartsM getObsM allNoneM zipU scal0 scalar eqC evNil evNilF List.map_cons List.map_nil List.cons_append List.nil_append List.append_nil List.drop_zero List.drop_succ_cons List.drop_nil List.take_succ_cons List.take_zero List.take_nil List.length_cons List.length_nil List.length_map List.getElem?_map Option.map_some Option.map_none Int.toNat_natCast Int.toNat_zero Int.toNat_one Int.natCast_nonneg List.flatMap_cons List.flatMap_nil List.all_cons List.all_nil Bool.and_true Bool.true_and Bool.and_false Bool.false_and Bool.not_true Bool.not_false beq_self_eq_true nb_self all_nil List.forall_mem_cons tk_map tk_app bs_self bs_dec bq_t bq_f Bool.not_not decide_true decide_false Bool.not_not and_self and_true true_and eq_self List.reverse_cons List.reverse_nil List.getElem?_cons_zero List.getElem?_cons_succ cond_true cond_false List.set_cons_zero List.set_cons_succ Nat.zero_add Nat.add_zero if_true if_false ite_true ite_false implies_true wrap64 wrap8
set_option linter.unusedVariables false
set_option linter.unusedSimpArgs false
set_option maxRecDepth 10000
set_option maxHeartbeats 8000000
theorem siftDown_size (hi first : Nat) : ∀ (n root : Nat) (d : Array Seg), hi - root ≤ n → (Go.Sort.siftDown ltS hi first root d).size = d.size := by
  intro n
  induction n with
  | zero =>
    intro root d h
    rw [sift_stop (.inl (by omega))]
  | succ n ih =>
    intro root d h
    by_cases h1 : 2 * root + 1 ≥ hi
    · rw [sift_stop (.inl h1)]
    · by_cases h2 : ltS d[first + root]! d[first + sifC hi first root d]! = true
      · rw [sift_go (by omega) h2, ih _ _ (by unfold sifC; split <;> omega), Go.Sort.size_swp]
      · rw [sift_stop (.inr (by simpa using h2))]
theorem C69 (v : Nat) (d : Array Seg) (a b L : Nat) (x y : Int) (ex : x = a) (ey : y = b) (eL : L = d.size) (hab : a < b) (hb : b ≤ d.size) (hl : d.size < 1000000) :
    Ctr Try.prog 69 [.hs 0 v 0 L, .int .i64 x, .int .i64 y, cF] (rowD v d) (retO [] (rowD v (Go.Sort.heapSort ltS d a b))) := by
  subst ex ey eL
  have tq : ((b : Int) - a - 1).tdiv 2 = (((b - a - 1) / 2 : Nat) : Int) := by
    rw [Int.tdiv_eq_ediv_of_nonneg (by omega)]
    omega
  apply ctr_b A69_ok rfl (Nat.le_of_ble_eq_true rfl)
  unfold A69
  simp only [rowD, initL, Nat.reduceAdd]
  simp (config := {maxSteps := 2000000, implicitDefEqProofs := false}) (disch := omega) only [↓reduceIte, go_sem, Int.reduceToNat, Nat.reduceAdd, Nat.reduceLeDiff, Nat.reduceEqDiff, Nat.reduceSub, Nat.reduceMul, reduceCtorEq, tq]
  refine loopL (σ := Nat × Array Seg) (fun s => ⟨[(0, .hs 0 v 0 d.size), (3, cF), (8, .int .i64 a), (9, .int .i64 0), (10, .int .i64 (b - a : Nat)), (11, .int .i64 ((s.1 : Int) - 1))], [(0, .arr v 6 (s.2.toList.map encS))]⟩)
    (fun s => s.1 ≤ (b - a - 1) / 2 + 1 ∧ s.2.size = d.size ∧ Go.Sort.heapBuild ltS (b - a) a s.1 s.2 = Go.Sort.heapBuild ltS (b - a) a ((b - a - 1) / 2 + 1) d) (fun s => s.1) ((b - a - 1) / 2 + 1, d) ?_ ⟨Nat.le_refl _, rfl, rfl⟩ ?_
  · simp (config := {maxSteps := 2000000, implicitDefEqProofs := false}) (disch := omega) only [↓reduceIte, go_sem, Int.reduceToNat, Nat.reduceAdd, Nat.reduceLeDiff, Nat.reduceEqDiff, Nat.reduceSub, Nat.reduceMul, reduceCtorEq, tq]
    have e1 : ((b - a : Nat) : Int) = (b : Int) - a := by omega
    have e2 : (((b - a - 1) / 2 + 1 : Nat) : Int) - 1 = (((b - a - 1) / 2 : Nat) : Int) := by omega
    simp only [e1, e2]
  rintro ⟨k, d1⟩ ⟨h1, h2, h3⟩
  simp only at h1 h2 h3
  simp (config := {maxSteps := 2000000, implicitDefEqProofs := false}) (disch := omega) only [↓reduceIte, go_sem, Int.reduceToNat, Nat.reduceAdd, Nat.reduceLeDiff, Nat.reduceEqDiff, Nat.reduceSub, Nat.reduceMul, reduceCtorEq]
  refine ifD (fun g => ?_) (fun g => ?_)
  · simp (config := {maxSteps := 2000000, implicitDefEqProofs := false}) (disch := omega) only [↓reduceIte, go_sem, Int.reduceToNat, Nat.reduceAdd, Nat.reduceLeDiff, Nat.reduceEqDiff, Nat.reduceSub, Nat.reduceMul, reduceCtorEq]
    refine callO (C77 v d1 (k - 1) (b - a) a d.size _ _ _ (by omega) (by omega) rfl h2.symm (by omega) (by omega) (by omega)) ?_
    rintro _ _ ⟨rfl, rfl⟩
    simp only [rowD]
    simp (config := {maxSteps := 2000000, implicitDefEqProofs := false}) (disch := omega) only [↓reduceIte, go_sem, Int.reduceToNat, Nat.reduceAdd, Nat.reduceLeDiff, Nat.reduceEqDiff, Nat.reduceSub, Nat.reduceMul, reduceCtorEq]
    refine ⟨(k - 1, Go.Sort.siftDown ltS (b - a) a (k - 1) d1), ?_, ⟨by simp only; omega, by rw [siftDown_size _ _ _ _ _ (Nat.le_refl _)]; exact h2, ?_⟩, by simp only; omega⟩
    · have : ((k - 1 : Nat) : Int) = (k : Int) - 1 := by omega
      simp only [this]
    · obtain ⟨k', rfl⟩ : ∃ k', k = k' + 1 := ⟨k - 1, by omega⟩
      exact h3
  · have hk : k = 0 := by omega
    subst hk
    have h3 : d1 = Go.Sort.heapBuild ltS (b - a) a ((b - a - 1) / 2 + 1) d := h3
    simp (config := {maxSteps := 2000000, implicitDefEqProofs := false}) (disch := omega) only [↓reduceIte, go_sem, Int.reduceToNat, Nat.reduceAdd, Nat.reduceLeDiff, Nat.reduceEqDiff, Nat.reduceSub, Nat.reduceMul, reduceCtorEq]
    refine loopL (σ := Nat × Array Seg) (fun s => ⟨[(0, .hs 0 v 0 d.size), (3, cF), (8, .int .i64 a), (9, .int .i64 0), (12, .int .i64 ((s.1 : Int) - 1))], [(0, .arr v 6 (s.2.toList.map encS))]⟩)
      (fun s => s.1 ≤ b - a ∧ s.2.size = d.size ∧ Go.Sort.heapPop ltS a s.1 s.2 = Go.Sort.heapSort ltS d a b) (fun s => s.1) (b - a, d1) (by simp (config := {maxSteps := 2000000, implicitDefEqProofs := false}) (disch := omega) only [↓reduceIte, go_sem, Int.reduceToNat, Nat.reduceAdd, Nat.reduceLeDiff, Nat.reduceEqDiff, Nat.reduceSub, Nat.reduceMul, reduceCtorEq]) ⟨Nat.le_refl _, h2, by simp only; rw [h3]; rfl⟩ ?_
    clear h3 h2
    rintro ⟨k, d2⟩ ⟨h1, h2, h3⟩
    simp only at h1 h2 h3
    simp (config := {maxSteps := 2000000, implicitDefEqProofs := false}) (disch := omega) only [↓reduceIte, go_sem, Int.reduceToNat, Nat.reduceAdd, Nat.reduceLeDiff, Nat.reduceEqDiff, Nat.reduceSub, Nat.reduceMul, reduceCtorEq]
    refine ifD (fun g => ?_) (fun g => ?_)
    · have t1 : ((a : Int) + ((k : Int) - 1)).toNat = a + (k - 1) := by omega
      have b0 := rdD (d := d2) (show a < d2.size by omega)
      have b1 := rdD (d := d2) (show a + (k - 1) < d2.size by omega)
      have hw := wrD (d := d2) (i := a) (j := a + (k - 1)) (by omega) (by omega)
      have e1 := hw.1
      have e2 := hw.2
      simp only [encS] at b0 b1 e1 e2
      simp (config := {maxSteps := 2000000, implicitDefEqProofs := false}) (disch := omega) only [↓reduceIte, go_sem, Int.reduceToNat, Nat.reduceAdd, Nat.reduceLeDiff, Nat.reduceEqDiff, Nat.reduceSub, Nat.reduceMul, reduceCtorEq, t1, b0, b1, e1, e2]
      refine accL (by kernel_rfl) ?_
      simp (config := {maxSteps := 2000000, implicitDefEqProofs := false}) (disch := omega) only [↓reduceIte, go_sem, Int.reduceToNat, Nat.reduceAdd, Nat.reduceLeDiff, Nat.reduceEqDiff, Nat.reduceSub, Nat.reduceMul, reduceCtorEq, t1, b0, b1, e1, e2]
      have hsz : (Go.Sort.swp d2 a (a + (k - 1))).size = d.size := by rw [Go.Sort.size_swp]; exact h2
      refine callO (C77 v (Go.Sort.swp d2 a (a + (k - 1))) 0 (k - 1) a d.size _ _ _ rfl (by omega) rfl hsz.symm (by omega) (by omega) (by omega)) ?_
      rintro _ _ ⟨rfl, rfl⟩
      simp only [rowD]
      simp (config := {maxSteps := 2000000, implicitDefEqProofs := false}) (disch := omega) only [↓reduceIte, go_sem, Int.reduceToNat, Nat.reduceAdd, Nat.reduceLeDiff, Nat.reduceEqDiff, Nat.reduceSub, Nat.reduceMul, reduceCtorEq]
      refine ⟨(k - 1, Go.Sort.siftDown ltS (k - 1) a 0 (Go.Sort.swp d2 a (a + (k - 1)))), ?_, ⟨by simp only; omega, by rw [siftDown_size _ _ _ _ _ (Nat.le_refl _)]; exact hsz, ?_⟩, by simp only; omega⟩
      · have : ((k - 1 : Nat) : Int) = (k : Int) - 1 := by omega
        simp only [this]
      · obtain ⟨k', rfl⟩ : ∃ k', k = k' + 1 := ⟨k - 1, by omega⟩
        exact h3
    · have hk : k = 0 := by omega
      subst hk
      have h3 : d2 = Go.Sort.heapSort ltS d a b := h3
      simp (config := {maxSteps := 2000000, implicitDefEqProofs := false}) (disch := omega) only [↓reduceIte, go_sem, Int.reduceToNat, Nat.reduceAdd, Nat.reduceLeDiff, Nat.reduceEqDiff, Nat.reduceSub, Nat.reduceMul, reduceCtorEq]
      rw [← h3]
      exact ⟨rfl, rfl⟩
theorem C72 (v : Nat) (d : Array Seg) (a b L : Nat) (x y : Int) (ex : x = a) (ey : y = b) (eL : L = d.size) (hab : a < b) (hb : b ≤ d.size) (hl : d.size < 1000000) :
    Ctr Try.prog 72 [.hs 0 v 0 L, .int .i64 x, .int .i64 y, cF] (rowD v d) (retO [] (rowD v (Go.Sort.reverseRange d a b))) := by
  subst ex ey eL
  apply ctr_b A72_ok rfl (Nat.le_of_ble_eq_true rfl)
  unfold A72
  simp only [rowD, initL, Nat.reduceAdd]
  simp (config := {maxSteps := 2000000, implicitDefEqProofs := false}) (disch := omega) only [↓reduceIte, go_sem, Int.reduceToNat, Nat.reduceAdd, Nat.reduceLeDiff, Nat.reduceEqDiff, Nat.reduceSub, Nat.reduceMul, reduceCtorEq]
  refine loopL (σ := (Nat × Nat) × Array Seg) (fun s => ⟨[(0, .hs 0 v 0 d.size), (8, .int .i64 s.1.1), (9, .int .i64 s.1.2)], [(0, .arr v 6 (s.2.toList.map encS))]⟩)
    (fun s => s.1.2 < d.size ∧ s.1.1 < 1000000 ∧ s.2.size = d.size ∧ Go.Sort.reverseLoop s.1.1 s.1.2 s.2 = Go.Sort.reverseRange d a b) (fun s => s.1.2 - s.1.1) ((a, b - 1), d) ?_ ⟨by simp only; omega, by simp only; omega, rfl, rfl⟩ ?_
  · simp (config := {maxSteps := 2000000, implicitDefEqProofs := false}) (disch := omega) only [↓reduceIte, go_sem, Int.reduceToNat, Nat.reduceAdd, Nat.reduceLeDiff, Nat.reduceEqDiff, Nat.reduceSub, Nat.reduceMul, reduceCtorEq]
    have : ((b - 1 : Nat) : Int) = (b : Int) - 1 := by omega
    simp only [this]
  rintro ⟨⟨i, j⟩, d1⟩ ⟨h1, h2, h3, h4⟩
  simp only at h1 h2 h3 h4
  simp (config := {maxSteps := 2000000, implicitDefEqProofs := false}) (disch := omega) only [↓reduceIte, go_sem, Int.reduceToNat, Nat.reduceAdd, Nat.reduceLeDiff, Nat.reduceEqDiff, Nat.reduceSub, Nat.reduceMul, reduceCtorEq]
  refine ifD (fun g => ?_) (fun g => ?_)
  · have b0 := rdD (d := d1) (show i < d1.size by omega)
    have b1 := rdD (d := d1) (show j < d1.size by omega)
    have hw := wrD (d := d1) (i := i) (j := j) (by omega) (by omega)
    have e1 := hw.1
    have e2 := hw.2
    simp only [encS] at b0 b1 e1 e2
    simp (config := {maxSteps := 2000000, implicitDefEqProofs := false}) (disch := omega) only [↓reduceIte, go_sem, Int.reduceToNat, Nat.reduceAdd, Nat.reduceLeDiff, Nat.reduceEqDiff, Nat.reduceSub, Nat.reduceMul, reduceCtorEq, b0, b1, e1, e2]
    refine accL (by kernel_rfl) ?_
    simp (config := {maxSteps := 2000000, implicitDefEqProofs := false}) (disch := omega) only [↓reduceIte, go_sem, Int.reduceToNat, Nat.reduceAdd, Nat.reduceLeDiff, Nat.reduceEqDiff, Nat.reduceSub, Nat.reduceMul, reduceCtorEq, b0, b1, e1, e2]
    refine ⟨((i + 1, j - 1), Go.Sort.swp d1 i j), ?_, ⟨by simp only; omega, by simp only; omega, by rw [Go.Sort.size_swp]; exact h3, ?_⟩, by simp only; omega⟩
    · have : ((j - 1 : Nat) : Int) = (j : Int) - 1 := by omega
      simp [this]
    · rw [Go.Sort.reverseLoop, if_pos (by omega)] at h4
      exact h4
  · simp (config := {maxSteps := 2000000, implicitDefEqProofs := false}) (disch := omega) only [↓reduceIte, go_sem, Int.reduceToNat, Nat.reduceAdd, Nat.reduceLeDiff, Nat.reduceEqDiff, Nat.reduceSub, Nat.reduceMul, reduceCtorEq]
    rw [Go.Sort.reverseLoop, if_neg (by omega)] at h4
    rw [← h4]
    exact ⟨rfl, rfl⟩

end Go.Proofs.Ytpmabjkjolhilaa.X
