/- Part of a proof: what functions of the program do. -/
import Derived.Test.YtcpjfjdlifjbhaaXam5
import Derived.Test.YtcpjfjdlifjbhaaXb
import Derived.RangeFuncBox
import Derived.RangeFuncLeaves
import Derived.Shelf.Abstract
import Derived.WalkKit
import Derived.OwnWalkIn
import Derived.TacticsInMore
import Derived.LoopNIn
import Derived.LoopIn
namespace Go.Proofs.Ytcpjfjdlifjbhaa.X
open Go Go.AM Go.Proofs
attribute [local go_sem ↓] w_skip w_lbl w_ops w_draw w_pre w_post w_alt w_seq w_cond w_block w_loop w_exit w_ret w_scope w_rfunc l_nil l_cons th_n th_e th_r bk_n bk_r bk_e t_nil t_it t_call i_nil i_one i_grp s_nil s_cons c_call e_mv e_nil e_frz o_mov o_bin o_eq o_un o_conv o_len o_slen o_idx o_aix o_fad o_load o_store o_boxp o_boxo o_boxm o_alloc o_alloca o_nilarr o_build o_bslp o_bslo o_slc o_sslc o_slc3 o_sidx o_mkfn o_ext o_pick o_callf o_callb o_appd o_clear o_mxn o_field o_nilc o_make o_buildm o_boxg o_mkif o_tass o_eqs o_callo k_int k_str k_bool k_grb k_grt k_some k_none k_arr k_lens k_lenf k_lenh k_idxs k_idxf k_idxh k_ld k_loadp k_loadr k_loade k_storer k_storee k_oin k_ois k_slcs k_slcf k_slch k_slc3s k_slc3f k_slc3h k_app2 k_apps k_appf k_apph k_cals k_cald k_cali k_cnb k_cna k_esn k_esc k_efn k_efc k_esh b_add b_sub b_mul b_quo b_rem b_and b_or b_xor b_andNot b_eql b_neq b_lss b_leq b_gtr b_geq b_shl b_shr b_seq b_sne b_slt b_sad q_bool q_str q_nil q_nilf u_not u_neg u_xor f_ret f_nor v_r v_c v_reg v_ob v_set v_put v_so v_sn v_pn v_pc g_nil d_nil p_nil m_mv m_fr z_nil z_cons z_an z_ac g_cons d_cons p_cons y_mov y_bin y_eq y_un y_conv y_len y_slen y_idx y_aix y_fad y_load y_store y_boxp y_boxo y_boxm y_alloc y_alloca y_nilarr y_build y_bslp y_bslo y_slc y_sslc y_slc3 y_sidx y_mkfn y_ext y_pick y_callf y_callb y_appd y_clear y_mxn y_field y_nilc y_make y_buildm y_boxg y_mkif y_tass y_eqs y_callo nb_if
attribute [local go_sem] VL_mk VL2_mk If_t If_f If_not If_and If_or If_dt If_df If_et If_ef If_ne Ck_t Ck_h Opt_s ld_a ld_c renL ren keepR renA idxM invL getObs mapOb renOb allNone putAll fzR fzO fz fzL fzOb frzOk upFrom mapR resOne resA cellsOf oneA oneAL isP isPL okSt kRows kParts fillA setAt bor bor0 bor1 bor2 borC borI key0 key1 key2 keysA fillM cellsM cellM unif ptrA ifOk kPartsM getObsM allNoneM zipU scal0 scalar eqC evNil evNilF List.map_cons List.map_nil List.cons_append List.nil_append List.append_nil List.drop_zero List.drop_succ_cons List.drop_nil List.take_succ_cons List.take_zero List.take_nil List.length_cons List.length_nil List.length_map List.getElem?_map Option.map_some Option.map_none Int.toNat_natCast Int.toNat_zero Int.toNat_one Int.natCast_nonneg List.flatMap_cons List.flatMap_nil List.all_cons List.all_nil Bool.and_true Bool.true_and Bool.and_false Bool.false_and Bool.not_true Bool.not_false beq_self_eq_true nb_self all_nil List.forall_mem_cons tk_map tk_app bs_self bs_dec bq_t bq_f Bool.not_not decide_true decide_false Bool.not_not and_self and_true true_and eq_self List.reverse_cons List.reverse_nil List.getElem?_cons_zero List.getElem?_cons_succ cond_true cond_false List.set_cons_zero List.set_cons_succ Nat.zero_add Nat.add_zero if_true if_false ite_true ite_false implies_true wrap64 wrap8
set_option linter.unusedVariables false
set_option linter.unusedSimpArgs false
set_option maxRecDepth 10000
structure Loc where
  kind : Int
  cls : Int
  n : Int
  deriving DecidableEq
structure Seg where
  v : Int
  fr : Int
  to : Int
  loc : Loc
  deriving DecidableEq
def encS (s : Seg) : List AV := [.int .i64 s.v, .int .i64 s.fr, .int .i64 s.to, .int .i64 s.loc.kind, .int .i64 s.loc.cls, .int .i64 s.loc.n]
def vals (l : List Seg) : List (List AV) := l.map fun s => [.agg (encS s)]
theorem C58 (f : Nat) (caps : List AV) (l : List Seg) (hc : isPL caps = true) (hl : l.length < 1000000) (hi : IterA Try.prog f caps (vals l)) : Ctr Try.prog 58 [.yl 0, .fn f caps] [] (retO [.hs 0 l.length 0 l.length] [.arr l.length 6 (l.map encS)]) := by
  apply ctr_bK A58_ok rfl (Nat.le_of_ble_eq_true rfl)
  unfold A58
  simp only [initL, Nat.reduceAdd]
  simp (config := {maxSteps := 2000000, implicitDefEqProofs := false}) (disch := omega) only [↓reduceIte, go_sem, Int.reduceToNat, Nat.reduceAdd, Nat.reduceLeDiff, Nat.reduceEqDiff, Nat.reduceSub, Nat.reduceMul, reduceCtorEq, hc, renL_pure hc]
  refine rangeL (σ := Nat) (xs := vals l) rfl hc hi (fun x hx => by obtain ⟨s, _, rfl⟩ := List.mem_map.1 hx; rfl)
    (fun s => [(2, .box [.hs 2000 s 0 (l.take s).length]), (2000, .arr s 6 ((l.take s).map encS))]) (fun k s => s = k ∧ k ≤ l.length) 0 (by simp (config := {maxSteps := 2000000, implicitDefEqProofs := false}) (disch := omega) only [↓reduceIte, go_sem, Int.reduceToNat, Nat.reduceAdd, Nat.reduceLeDiff, Nat.reduceEqDiff, Nat.reduceSub, Nat.reduceMul, reduceCtorEq]) ⟨rfl, Nat.zero_le _⟩ (fun s => rfl) ?_ ?_
  · rintro k x s hx ⟨rfl, hk⟩
    obtain ⟨y, hy, rfl⟩ : ∃ y, l[s]? = some y ∧ [.agg (encS y)] = x := by simpa [vals] using hx
    have hlt : s < l.length := (List.getElem?_eq_some_iff.1 hy).1
    have h1 : (l.take s).length = s := by rw [List.length_take]; omega
    have h2 : (l.take (s + 1)).length = s + 1 := by rw [List.length_take]; omega
    have h3 : l.take (s + 1) = l.take s ++ [y] := by rw [List.take_add_one, hy]; rfl
    simp (config := {maxSteps := 2000000, implicitDefEqProofs := false}) (disch := omega) only [↓reduceIte, go_sem, Int.reduceToNat, Nat.reduceAdd, Nat.reduceLeDiff, Nat.reduceEqDiff, Nat.reduceSub, Nat.reduceMul, reduceCtorEq, encS, h1]
    refine ⟨rfl, s + 1, ?_, rfl, hlt⟩
    rw [h2, h3]
    simp [encS]
  · rintro s ⟨rfl, hk⟩
    simp (config := {maxSteps := 2000000, implicitDefEqProofs := false}) (disch := omega) only [↓reduceIte, go_sem, Int.reduceToNat, Nat.reduceAdd, Nat.reduceLeDiff, Nat.reduceEqDiff, Nat.reduceSub, Nat.reduceMul, reduceCtorEq]
    have hv : (vals l).length = l.length := by simp [vals]
    rw [hv, List.take_length]
    exact ⟨rfl, rfl⟩
theorem C49 (f : Nat) (caps : List AV) (l : List Seg) (hc : isPL caps = true) (hl : l.length < 1000000) (hi : IterA Try.prog f caps (vals l)) : Ctr Try.prog 49 [.fn f caps] [] (retO [.hs 0 l.length 0 l.length] [.arr l.length 6 (l.map encS)]) := by
  apply ctr_b A49_ok rfl (Nat.le_of_ble_eq_true rfl)
  unfold A49
  simp only [initL, Nat.reduceAdd]
  simp (config := {maxSteps := 2000000, implicitDefEqProofs := false}) (disch := omega) only [↓reduceIte, go_sem, Int.reduceToNat, Nat.reduceAdd, Nat.reduceLeDiff, Nat.reduceEqDiff, Nat.reduceSub, Nat.reduceMul, reduceCtorEq, hc, renL_pure hc]
  refine callD (C58 f caps l hc hl hi) ?_
  simp (config := {maxSteps := 2000000, implicitDefEqProofs := false}) (disch := omega) only [↓reduceIte, go_sem, Int.reduceToNat, Nat.reduceAdd, Nat.reduceLeDiff, Nat.reduceEqDiff, Nat.reduceSub, Nat.reduceMul, reduceCtorEq]
  exact ⟨rfl, rfl⟩
theorem C34 (l : List Seg) : Ctr Try.prog 34 [.sl (l.map encS)] [] (ret [.fn 51 [.rp [.sl (l.map encS)]]]) := by
  apply ctr_b A34_ok rfl (Nat.le_of_ble_eq_true rfl)
  unfold A34
  simp only [initL, Nat.reduceAdd]
  simp (config := {maxSteps := 2000000, implicitDefEqProofs := false}) (disch := omega) only [↓reduceIte, go_sem, Int.reduceToNat, Nat.reduceAdd, Nat.reduceLeDiff, Nat.reduceEqDiff, Nat.reduceSub, Nat.reduceMul, reduceCtorEq]
  exact ⟨rfl, rfl⟩
end Go.Proofs.Ytcpjfjdlifjbhaa.X
namespace Go.Proofs.Ytcpjfjdlifjbhaa.X
open Go Go.AM Go.Proofs Go.RowKit Go.Shelf Go.Proofs.Ytcpjfjdlifjbhaa
attribute [local go_sem] Oper.semAt_some
set_option maxRecDepth 100000 in
set_option maxHeartbeats 2000000 in
theorem values_seg (l Bs bo b off len cap : Nat) (hreach : len * 48 ≤ 140737488351232) (J : Nat → World → Prop) (Jx : World → Prop) (cs : Nat → Nat → Int)
    (hI : ∀ k W W', J k W → Idle W W' → J k W')
    (hV : ∀ k W, J k W → W.cell? ⟨Bs, bo, none⟩ = some (.slice (some ⟨b, off, none⟩) len cap) ∧ ∀ j i, j < len → i < 6 → W.cell? ⟨b, off + j * 6 + i, none⟩ = some (.int .i64 (cs j i)))
    (hY : ∀ k W, k < len → J k W → YieldAt Fence.wide 0 Try.prog l #[.agg #[.int .i64 (cs k 0), .int .i64 (cs k 1), .int .i64 (cs k 2), .int .i64 (cs k 3), .int .i64 (cs k 4), .int .i64 (cs k 5)]] W fun e W' => (e = .returned (.bool true) ∧ J (k + 1) W') ∨ (e = .returned (.bool false) ∧ Jx W'))
    (W : World) (h0 : J 0 W) :
    CallsIn Fence.wide 0 Try.prog 51 #[.func (.yield l) #[] #[], .pointer (some ⟨Bs, bo, none⟩)] W fun e W' => (∃ v, e = .returned v) ∧ (J len W' ∨ Jx W') := by
  refine callsIn_of_wp Try.func51 rfl trivial ?_ rfl
  simp only [Try.ntmps51, List.size_toArray, List.length_cons, List.length_nil, Nat.reduceAdd, Nat.reduceSub, Array.replicate_succ, Array.replicate_zero, List.push_toArray, List.append_toArray, List.nil_append, List.cons_append]
  obtain ⟨hbs, hcs⟩ := hV 0 W h0
  gi_wp2
  gi_loopw [7] (fun i wr => ∃ k : Nat, k ≤ len ∧ i = .int .i64 k ∧ J k wr)
    (fun i _ => len - (intOf i).toNat)
  case atStart => exact ⟨0, Nat.zero_le _, rfl, h0⟩
  case round =>
    obtain ⟨k, hk, rfl, hJs⟩ := hrel
    by_cases hlt : k < len
    · obtain ⟨hb2, hc2⟩ := hV k wr hJs
      have c0 : wr.cell? ⟨b, off + k * 6, none⟩ = some (.int .i64 (cs k 0)) := hc2 k 0 hlt (by omega)
      have c1 := hc2 k 1 hlt (by omega)
      have c2 := hc2 k 2 hlt (by omega)
      have c3 := hc2 k 3 hlt (by omega)
      have c4 := hc2 k 4 hlt (by omega)
      have c5 := hc2 k 5 hlt (by omega)
      clear hb2 hc2 hcs
      have hJ2 : J k (wr.alloc (Obj.cells #[Value.int IntKind.i64 (cs k 0), Value.int IntKind.i64 (cs k 1), Value.int IntKind.i64 (cs k 2), Value.int IntKind.i64 (cs k 3), Value.int IntKind.i64 (cs k 4), Value.int IntKind.i64 (cs k 5)] 31)) := hI k _ _ hJs (Quiet.alloc _ _ _)
      obtain ⟨fn, tmps, assign, body, hy, hR⟩ := hY k _ hlt hJ2
      gi_wp2
      refine ⟨rfl, hR.mono ?_⟩
      rintro e W3 (⟨rfl, hJ3⟩ | ⟨rfl, hJx⟩)
      · gi_wp2
        go_roundw
        case rel => exact ⟨k + 1, by omega, by simp, hJ3⟩
        case measure => simp [intOf]; omega
      · gi_wp2
        refine bodyPost_ret (results_none rfl _ _ _) rfl ?_
        exact ⟨⟨_, rfl⟩, .inr hJx⟩
    · obtain rfl : k = len := by omega
      gi_wp2
      go_end0
      exact ⟨⟨_, rfl⟩, .inl hJs⟩
set_option maxRecDepth 100000 in
set_option maxHeartbeats 2000000 in
theorem values_seg0 (l Bs bo cap : Nat) (a : Option Addr) (J : Nat → World → Prop) (Jx : World → Prop) (W : World) (hbs : W.cell? ⟨Bs, bo, none⟩ = some (.slice a 0 cap)) (h0 : J 0 W) :
    CallsIn Fence.wide 0 Try.prog 51 #[.func (.yield l) #[] #[], .pointer (some ⟨Bs, bo, none⟩)] W fun e W' => (∃ v, e = .returned v) ∧ (J 0 W' ∨ Jx W') := by
  refine callsIn_of_wp Try.func51 rfl trivial ?_ rfl
  simp only [Try.ntmps51, List.size_toArray, List.length_cons, List.length_nil, Nat.reduceAdd, Nat.reduceSub, Array.replicate_succ, Array.replicate_zero, List.push_toArray, List.append_toArray, List.nil_append, List.cons_append]
  gi_wp2
  gi_loopw [7] (fun i wr => i = .int .i64 0 ∧ J 0 wr) (fun _ _ => 0)
  case atStart => exact ⟨rfl, h0⟩
  case round =>
    obtain ⟨rfl, hJs⟩ := hrel
    gi_wp2
    go_end0
    exact ⟨⟨_, rfl⟩, .inl hJs⟩
end Go.Proofs.Ytcpjfjdlifjbhaa.X
namespace Go.Proofs.Ytcpjfjdlifjbhaa.X
open Go Go.AM Go.Proofs
set_option linter.unusedVariables false
set_option linter.unusedSimpArgs false
set_option maxRecDepth 10000
def valS (s : Seg) : Array Value := #[.agg #[.int .i64 s.v, .int .i64 s.fr, .int .i64 s.to, .int .i64 s.loc.kind, .int .i64 s.loc.cls, .int .i64 s.loc.n]]
def numS (s : Seg) : Nat → Int
  | 0 => s.v
  | 1 => s.fr
  | 2 => s.to
  | 3 => s.loc.kind
  | 4 => s.loc.cls
  | _ => s.loc.n
def cellS (l : List Seg) (k i : Nat) : Int := match l[k]? with | some s => numS s i | none => 0
theorem I51 (l : List Seg) (hl : l.length < 1000000) : IterA Try.prog 51 [.rp [.sl (l.map encS)]] (vals l) := by
  refine ⟨by kernel_rfl, fun V cvs h => ?_⟩
  simp only [RepPL, RepP, RepC] at h
  obtain ⟨v, r, rfl, ⟨b0, o0, rfl, ⟨⟨u, hu, ⟨a, cap, rfl, hcap, hx⟩, _⟩, _⟩⟩, rfl⟩ := h
  refine ⟨l.map valS, by simp [vals], fun k x v hk hv => ?_, ?_⟩
  · obtain ⟨s, hs, rfl⟩ : ∃ s, l[k]? = some s ∧ [.agg (encS s)] = x := by simpa [vals] using hk
    have : valS s = v := by simpa [hs] using hv
    subst this
    simp only [RepPL, RepP, encS, valS]
    exact ⟨_, _, rfl, ⟨[.int .i64 s.v, .int .i64 s.fr, .int .i64 s.to, .int .i64 s.loc.kind, .int .i64 s.loc.cls, .int .i64 s.loc.n], rfl, by simp⟩, rfl⟩
  · intro W lw J Jx hI1 hI2 hV hY h0
    rw [List.length_map] at hu hcap ⊢
    by_cases hne : l = []
    · subst hne
      have := values_seg0 lw b0 o0 cap a J Jx W (hV 0 W h0 _ _ _ hu) h0
      simpa using this
    · rcases hx with hx | ⟨b, off, esz, rfl, hr⟩
      · simp at hx
        exact absurd hx hne
      · have he : esz = 6 := hr.esz_of (n := 6) (fun c hc => by obtain ⟨s, _, rfl⟩ := List.mem_map.1 hc; rfl) (by simpa using hne)
        subst he
        have := values_seg lw b0 o0 b off l.length cap (by omega) J Jx (cellS l) hI1 (fun k W hJ => ⟨hV k W hJ _ _ _ hu, fun j i hj hi => ?_⟩) (fun k W hk hJ => ?_) W h0
        · simpa using this
        · have hs : l[j]? = some l[j] := List.getElem?_eq_getElem hj
          obtain ⟨_, hc⟩ := hr.get (i := j) (c := encS l[j]) (by rw [List.getElem?_map, hs]; rfl)
          apply hV k W hJ
          simp only [encS, RepC, RepP] at hc
          obtain ⟨⟨v0, g0, rfl, _⟩, ⟨v1, g1, rfl, _⟩, ⟨v2, g2, rfl, _⟩, ⟨v3, g3, rfl, _⟩, ⟨v4, g4, rfl, _⟩, ⟨v5, g5, rfl, _⟩, _⟩ := hc
          unfold cellS
          rw [hs]
          have : i = 0 ∨ i = 1 ∨ i = 2 ∨ i = 3 ∨ i = 4 ∨ i = 5 := by omega
          rcases this with rfl | rfl | rfl | rfl | rfl | rfl
          · exact g0
          · exact g1
          · exact g2
          · exact g3
          · exact g4
          · exact g5
        · have hs : l[k]? = some l[k] := List.getElem?_eq_getElem hk
          have := hY k (valS l[k]) W (by rw [List.getElem?_map, hs]; rfl) hJ
          simpa [cellS, hs, numS, valS] using this
end Go.Proofs.Ytcpjfjdlifjbhaa.X
namespace Go.Proofs.Ytcpjfjdlifjbhaa.X
open Go Go.AM Go.Proofs
attribute [local go_sem ↓] w_skip w_lbl w_ops w_draw w_pre w_post w_alt w_seq w_cond w_block w_loop w_exit w_ret w_scope w_rfunc l_nil l_cons th_n th_e th_r bk_n bk_r bk_e t_nil t_it t_call i_nil i_one i_grp s_nil s_cons c_call e_mv e_nil e_frz o_mov o_bin o_eq o_un o_conv o_len o_slen o_idx o_aix o_fad o_load o_store o_boxp o_boxo o_boxm o_alloc o_alloca o_nilarr o_build o_bslp o_bslo o_slc o_sslc o_slc3 o_sidx o_mkfn o_ext o_pick o_callf o_callb o_appd o_clear o_mxn o_field o_nilc o_make o_buildm o_boxg o_mkif o_tass o_eqs o_callo k_int k_str k_bool k_grb k_grt k_some k_none k_arr k_lens k_lenf k_lenh k_idxs k_idxf k_idxh k_ld k_loadp k_loadr k_loade k_storer k_storee k_oin k_ois k_slcs k_slcf k_slch k_slc3s k_slc3f k_slc3h k_app2 k_apps k_appf k_apph k_cals k_cald k_cali k_cnb k_cna k_esn k_esc k_efn k_efc k_esh b_add b_sub b_mul b_quo b_rem b_and b_or b_xor b_andNot b_eql b_neq b_lss b_leq b_gtr b_geq b_shl b_shr b_seq b_sne b_slt b_sad q_bool q_str q_nil q_nilf u_not u_neg u_xor f_ret f_nor v_r v_c v_reg v_ob v_set v_put v_so v_sn v_pn v_pc g_nil d_nil p_nil m_mv m_fr z_nil z_cons z_an z_ac g_cons d_cons p_cons y_mov y_bin y_eq y_un y_conv y_len y_slen y_idx y_aix y_fad y_load y_store y_boxp y_boxo y_boxm y_alloc y_alloca y_nilarr y_build y_bslp y_bslo y_slc y_sslc y_slc3 y_sidx y_mkfn y_ext y_pick y_callf y_callb y_appd y_clear y_mxn y_field y_nilc y_make y_buildm y_boxg y_mkif y_tass y_eqs y_callo nb_if
attribute [local go_sem] VL_mk VL2_mk If_t If_f If_not If_and If_or If_dt If_df If_et If_ef If_ne Ck_t Ck_h Opt_s ld_a ld_c renL ren keepR renA idxM invL getObs mapOb renOb allNone putAll fzR fzO fz fzL fzOb frzOk upFrom mapR resOne resA cellsOf oneA oneAL isP isPL okSt kRows kParts fillA setAt bor bor0 bor1 bor2 borC borI key0 key1 key2 keysA fillM cellsM cellM unif ptrA ifOk kPartsM getObsM allNoneM zipU scal0 scalar eqC evNil evNilF List.map_cons List.map_nil List.cons_append List.nil_append List.append_nil List.drop_zero List.drop_succ_cons List.drop_nil List.take_succ_cons List.take_zero List.take_nil List.length_cons List.length_nil List.length_map List.getElem?_map Option.map_some Option.map_none Int.toNat_natCast Int.toNat_zero Int.toNat_one Int.natCast_nonneg List.flatMap_cons List.flatMap_nil List.all_cons List.all_nil Bool.and_true Bool.true_and Bool.and_false Bool.false_and Bool.not_true Bool.not_false beq_self_eq_true nb_self all_nil List.forall_mem_cons tk_map tk_app bs_self bs_dec bq_t bq_f Bool.not_not decide_true decide_false Bool.not_not and_self and_true true_and eq_self List.reverse_cons List.reverse_nil List.getElem?_cons_zero List.getElem?_cons_succ cond_true cond_false List.set_cons_zero List.set_cons_succ Nat.zero_add Nat.add_zero if_true if_false ite_true ite_false implies_true wrap64 wrap8
set_option linter.unusedVariables false
set_option linter.unusedSimpArgs false
set_option maxRecDepth 10000
/-- A segment, and where it stood. -/
abbrev Tg := Seg × Nat
def encT (t : Tg) : List AV := encS t.1
theorem encT_len (t : Tg) : (encT t).length = 6 := rfl
abbrev cF : AV := .fn 35 []
def rowT (v : Nat) (T : List Tg) : List Ob := [.arr v 6 (T.map encT)]
def Swapped (T T' : List Tg) (a b n : Nat) : Prop := T'.length = T.length ∧ ∀ i, T'[i]? = if a ≤ i ∧ i < a + n then T[b + (i - a)]? else if b ≤ i ∧ i < b + n then T[a + (i - b)]? else T[i]?
theorem Swapped.step {T T' : List Tg} {a b n : Nat} {x y : Tg} (h : Swapped T T' a b n) (hab : a + n < b) (hx : T[a + n]? = some x) (hy : T[b + n]? = some y) : Swapped T ((T'.set (a + n) y).set (b + n) x) a b (n + 1) := by
  refine ⟨by simp [h.1], fun i => ?_⟩
  have hlx : a + n < T.length := (List.getElem?_eq_some_iff.1 hx).1
  have hly : b + n < T.length := (List.getElem?_eq_some_iff.1 hy).1
  rw [List.getElem?_set, List.getElem?_set]
  have hl := h.1
  by_cases e1 : i = b + n
  · subst e1
    rw [if_pos rfl, if_pos (by simp; omega), if_neg (show ¬ (a ≤ b + n ∧ b + n < a + (n + 1)) by omega), if_pos (show b ≤ b + n ∧ b + n < b + (n + 1) by omega), ← hx]
    congr 1
    omega
  · rw [if_neg (Ne.symm e1)]
    by_cases e2 : i = a + n
    · subst e2
      rw [if_pos rfl, if_pos (by omega), if_pos (show a ≤ a + n ∧ a + n < a + (n + 1) by omega), ← hy]
      congr 1
      omega
    · rw [if_neg (Ne.symm e2), h.2 i]
      by_cases c1 : a ≤ i ∧ i < a + n
      · rw [if_pos c1, if_pos (show a ≤ i ∧ i < a + (n + 1) by omega)]
      · rw [if_neg c1, if_neg (show ¬ (a ≤ i ∧ i < a + (n + 1)) by omega)]
        by_cases c2 : b ≤ i ∧ i < b + n
        · rw [if_pos c2, if_pos (show b ≤ i ∧ i < b + (n + 1) by omega)]
        · rw [if_neg c2, if_neg (show ¬ (b ≤ i ∧ i < b + (n + 1)) by omega)]
theorem rset_get {T : List Tg} {i j : Nat} {y : Tg} (hi : i < T.length) (hj : T[j]? = some y) : ((T.map encT).set i (encT y))[j]? = some (encT y) := by
  rw [List.getElem?_set]
  split
  · rw [if_pos (by simpa using hi)]
  · rw [List.getElem?_map, hj]
    rfl
theorem rset (T : List Tg) (i j : Nat) (x y : Tg) : ((T.map encT).set i (encT y)).set j (encT x) = ((T.set i y).set j x).map encT := by rw [← List.map_set, ← List.map_set]
theorem C64 (v : Nat) (T : List Tg) (a b n : Nat) (h1 : a + n ≤ b) (h2 : b + n ≤ T.length) (hl : T.length < 1000000) :
    Ctr Try.prog 64 [.hs 0 v 0 T.length, .int .i64 a, .int .i64 b, .int .i64 n, cF] (rowT v T) (fun r o => ∃ T', r = [] ∧ o = rowT v T' ∧ Swapped T T' a b n) := by
  apply ctr_b A64_ok rfl (Nat.le_of_ble_eq_true rfl)
  unfold A64
  simp only [rowT, initL, Nat.reduceAdd]
  simp (config := {maxSteps := 2000000, implicitDefEqProofs := false}) (disch := omega) only [↓reduceIte, go_sem, Int.reduceToNat, Nat.reduceAdd, Nat.reduceLeDiff, Nat.reduceEqDiff, Nat.reduceSub, Nat.reduceMul, reduceCtorEq]
  refine loopL (σ := Nat × List Tg) (fun s => ⟨[(0, .hs 0 v 0 T.length), (1, .int .i64 a), (2, .int .i64 b), (3, .int .i64 n), (10, .int .i64 s.1)], [(0, .arr v 6 (s.2.map encT))]⟩)
    (fun s => s.1 ≤ n ∧ Swapped T s.2 a b s.1) (fun s => n - s.1) (0, T) (by simp (config := {maxSteps := 2000000, implicitDefEqProofs := false}) (disch := omega) only [↓reduceIte, go_sem, Int.reduceToNat, Nat.reduceAdd, Nat.reduceLeDiff, Nat.reduceEqDiff, Nat.reduceSub, Nat.reduceMul, reduceCtorEq]; rfl) ⟨Nat.zero_le _, rfl, fun i => by rw [if_neg (by omega), if_neg (by omega)]⟩ ?_
  rintro ⟨k, T'⟩ ⟨hk, hs⟩
  simp only at hk hs
  have hlen := hs.1
  have ex : k < n → ∃ x y, T[a + k]? = some x ∧ T[b + k]? = some y ∧ T'[a + k]? = some x ∧ T'[b + k]? = some y := by
    intro hkn
    have hx := List.getElem?_eq_getElem (l := T) (i := a + k) (by omega)
    have hy := List.getElem?_eq_getElem (l := T) (i := b + k) (by omega)
    exact ⟨_, _, hx, hy, by rw [hs.2, if_neg (by omega), if_neg (by omega)]; exact hx, by rw [hs.2, if_neg (by omega), if_neg (by omega)]; exact hy⟩
  simp (config := {maxSteps := 2000000, implicitDefEqProofs := false}) (disch := omega) only [↓reduceIte, go_sem, Int.reduceToNat, Nat.reduceAdd, Nat.reduceLeDiff, Nat.reduceEqDiff, Nat.reduceSub, Nat.reduceMul, reduceCtorEq]
  refine ifD (fun g => ?_) (fun g => ?_)
  · have hkn : k < n := by omega
    have t1 : ((a : Int) + k).toNat = a + k := by omega
    have t2 : ((b : Int) + k).toNat = b + k := by omega
    simp (config := {maxSteps := 2000000, implicitDefEqProofs := false}) (disch := omega) only [↓reduceIte, go_sem, Int.reduceToNat, Nat.reduceAdd, Nat.reduceLeDiff, Nat.reduceEqDiff, Nat.reduceSub, Nat.reduceMul, reduceCtorEq, t1, t2]
    obtain ⟨x, y, hx, hy, hx', hy'⟩ := ex hkn
    have e1 := rset_get (T := T') (i := a + k) (j := b + k) (y := y) (by omega) hy'
    have e2 := rset T' (a + k) (b + k) x y
    simp only [encT, encS] at e1 e2
    simp (config := {maxSteps := 2000000, implicitDefEqProofs := false}) (disch := omega) only [↓reduceIte, go_sem, Int.reduceToNat, Nat.reduceAdd, Nat.reduceLeDiff, Nat.reduceEqDiff, Nat.reduceSub, Nat.reduceMul, reduceCtorEq, t1, t2, hx', hy', encT, encS, e1, e2]
    refine accL (by kernel_rfl) ?_
    simp (config := {maxSteps := 2000000, implicitDefEqProofs := false}) (disch := omega) only [↓reduceIte, go_sem, Int.reduceToNat, Nat.reduceAdd, Nat.reduceLeDiff, Nat.reduceEqDiff, Nat.reduceSub, Nat.reduceMul, reduceCtorEq, t1, t2, hx', hy', encT, encS, e1, e2]
    exact ⟨(k + 1, (T'.set (a + k) y).set (b + k) x), by simp, ⟨by simp only; omega, hs.step (by omega) hx hy⟩, by simp only; omega⟩
  · have : k = n := by omega
    subst this
    simp (config := {maxSteps := 2000000, implicitDefEqProofs := false}) (disch := omega) only [↓reduceIte, go_sem, Int.reduceToNat, Nat.reduceAdd, Nat.reduceLeDiff, Nat.reduceEqDiff, Nat.reduceSub, Nat.reduceMul, reduceCtorEq]
    exact ⟨T', rfl, hs⟩
end Go.Proofs.Ytcpjfjdlifjbhaa.X
namespace Go.Proofs.Ytcpjfjdlifjbhaa.X
open Go Go.AM Go.Proofs
attribute [local go_sem ↓] w_skip w_lbl w_ops w_draw w_pre w_post w_alt w_seq w_cond w_block w_loop w_exit w_ret w_scope w_rfunc l_nil l_cons th_n th_e th_r bk_n bk_r bk_e t_nil t_it t_call i_nil i_one i_grp s_nil s_cons c_call e_mv e_nil e_frz o_mov o_bin o_eq o_un o_conv o_len o_slen o_idx o_aix o_fad o_load o_store o_boxp o_boxo o_boxm o_alloc o_alloca o_nilarr o_build o_bslp o_bslo o_slc o_sslc o_slc3 o_sidx o_mkfn o_ext o_pick o_callf o_callb o_appd o_clear o_mxn o_field o_nilc o_make o_buildm o_boxg o_mkif o_tass o_eqs o_callo k_int k_str k_bool k_grb k_grt k_some k_none k_arr k_lens k_lenf k_lenh k_idxs k_idxf k_idxh k_ld k_loadp k_loadr k_loade k_storer k_storee k_oin k_ois k_slcs k_slcf k_slch k_slc3s k_slc3f k_slc3h k_app2 k_apps k_appf k_apph k_cals k_cald k_cali k_cnb k_cna k_esn k_esc k_efn k_efc k_esh b_add b_sub b_mul b_quo b_rem b_and b_or b_xor b_andNot b_eql b_neq b_lss b_leq b_gtr b_geq b_shl b_shr b_seq b_sne b_slt b_sad q_bool q_str q_nil q_nilf u_not u_neg u_xor f_ret f_nor v_r v_c v_reg v_ob v_set v_put v_so v_sn v_pn v_pc g_nil d_nil p_nil m_mv m_fr z_nil z_cons z_an z_ac g_cons d_cons p_cons y_mov y_bin y_eq y_un y_conv y_len y_slen y_idx y_aix y_fad y_load y_store y_boxp y_boxo y_boxm y_alloc y_alloca y_nilarr y_build y_bslp y_bslo y_slc y_sslc y_slc3 y_sidx y_mkfn y_ext y_pick y_callf y_callb y_appd y_clear y_mxn y_field y_nilc y_make y_buildm y_boxg y_mkif y_tass y_eqs y_callo nb_if
attribute [local go_sem] VL_mk VL2_mk If_t If_f If_not If_and If_or If_dt If_df If_et If_ef If_ne Ck_t Ck_h Opt_s ld_a ld_c renL ren keepR renA idxM invL getObs mapOb renOb allNone putAll fzR fzO fz fzL fzOb frzOk upFrom mapR resOne resA cellsOf oneA oneAL isP isPL okSt kRows kParts fillA setAt bor bor0 bor1 bor2 borC borI key0 key1 key2 keysA fillM cellsM cellM unif ptrA ifOk kPartsM getObsM allNoneM zipU scal0 scalar eqC evNil evNilF List.map_cons List.map_nil List.cons_append List.nil_append List.append_nil List.drop_zero List.drop_succ_cons List.drop_nil List.take_succ_cons List.take_zero List.take_nil List.length_cons List.length_nil List.length_map List.getElem?_map Option.map_some Option.map_none Int.toNat_natCast Int.toNat_zero Int.toNat_one Int.natCast_nonneg List.flatMap_cons List.flatMap_nil List.all_cons List.all_nil Bool.and_true Bool.true_and Bool.and_false Bool.false_and Bool.not_true Bool.not_false beq_self_eq_true nb_self all_nil List.forall_mem_cons tk_map tk_app bs_self bs_dec bq_t bq_f Bool.not_not decide_true decide_false Bool.not_not and_self and_true true_and eq_self List.reverse_cons List.reverse_nil List.getElem?_cons_zero List.getElem?_cons_succ cond_true cond_false List.set_cons_zero List.set_cons_succ Nat.zero_add Nat.add_zero if_true if_false ite_true ite_false implies_true wrap64 wrap8
set_option linter.unusedVariables false
set_option linter.unusedSimpArgs false
set_option maxRecDepth 10000
def c3 (x y : Int) : Int := if x < y then -1 else if x > y then 1 else 0
def cmpV (a b : Seg) : Int := if c3 a.fr b.fr ≠ 0 then c3 a.fr b.fr else c3 a.v b.v
theorem C52 (x : Int) : Ctr Try.prog 52 [.int .i64 x] [] (ret [.bool false]) := by
  apply ctr_b A52_ok rfl (Nat.le_of_ble_eq_true rfl)
  unfold A52
  simp only [initL, Nat.reduceAdd]
  simp (config := {maxSteps := 2000000, implicitDefEqProofs := false}) (disch := omega) only [↓reduceIte, go_sem, Int.reduceToNat, Nat.reduceAdd, Nat.reduceLeDiff, Nat.reduceEqDiff, Nat.reduceSub, Nat.reduceMul, reduceCtorEq]
  exact ⟨by simp, rfl⟩
theorem C37 (x y : Int) : Ctr Try.prog 37 [.int .i64 x, .int .i64 y] [] (ret [.int .i64 (c3 x y)]) := by
  apply ctr_b A37_ok rfl (Nat.le_of_ble_eq_true rfl)
  unfold A37
  simp only [initL, Nat.reduceAdd]
  simp (config := {maxSteps := 2000000, implicitDefEqProofs := false}) (disch := omega) only [↓reduceIte, go_sem, Int.reduceToNat, Nat.reduceAdd, Nat.reduceLeDiff, Nat.reduceEqDiff, Nat.reduceSub, Nat.reduceMul, reduceCtorEq]
  refine callL (C52 x) ?_
  simp (config := {maxSteps := 2000000, implicitDefEqProofs := false}) (disch := omega) only [↓reduceIte, go_sem, Int.reduceToNat, Nat.reduceAdd, Nat.reduceLeDiff, Nat.reduceEqDiff, Nat.reduceSub, Nat.reduceMul, reduceCtorEq]
  refine callL (C52 y) ?_
  simp (config := {maxSteps := 2000000, implicitDefEqProofs := false}) (disch := omega) only [↓reduceIte, go_sem, Int.reduceToNat, Nat.reduceAdd, Nat.reduceLeDiff, Nat.reduceEqDiff, Nat.reduceSub, Nat.reduceMul, reduceCtorEq]
  refine ifD (fun h => ?_) (fun h => ?_)
  · simp (config := {maxSteps := 2000000, implicitDefEqProofs := false}) (disch := omega) only [↓reduceIte, go_sem, Int.reduceToNat, Nat.reduceAdd, Nat.reduceLeDiff, Nat.reduceEqDiff, Nat.reduceSub, Nat.reduceMul, reduceCtorEq]
    exact ⟨by simp [c3, h], rfl⟩
  · simp (config := {maxSteps := 2000000, implicitDefEqProofs := false}) (disch := omega) only [↓reduceIte, go_sem, Int.reduceToNat, Nat.reduceAdd, Nat.reduceLeDiff, Nat.reduceEqDiff, Nat.reduceSub, Nat.reduceMul, reduceCtorEq]
    refine ifD (fun h2 => ?_) (fun h2 => ?_)
    · simp (config := {maxSteps := 2000000, implicitDefEqProofs := false}) (disch := omega) only [↓reduceIte, go_sem, Int.reduceToNat, Nat.reduceAdd, Nat.reduceLeDiff, Nat.reduceEqDiff, Nat.reduceSub, Nat.reduceMul, reduceCtorEq]
      exact ⟨by simp [c3, h, h2], rfl⟩
    · simp (config := {maxSteps := 2000000, implicitDefEqProofs := false}) (disch := omega) only [↓reduceIte, go_sem, Int.reduceToNat, Nat.reduceAdd, Nat.reduceLeDiff, Nat.reduceEqDiff, Nat.reduceSub, Nat.reduceMul, reduceCtorEq]
      exact ⟨by simp [c3, h, h2], rfl⟩
theorem C36 (x y : Int) : Ctr Try.prog 36 [.sl [[.int .i64 x], [.int .i64 y]]] [] (ret [.int .i64 (if x ≠ 0 then x else y)]) := by
  apply ctr_b A36_ok rfl (Nat.le_of_ble_eq_true rfl)
  unfold A36
  simp only [initL, Nat.reduceAdd]
  simp (config := {maxSteps := 2000000, implicitDefEqProofs := false}) (disch := omega) only [↓reduceIte, go_sem, Int.reduceToNat, Nat.reduceAdd, Nat.reduceLeDiff, Nat.reduceEqDiff, Nat.reduceSub, Nat.reduceMul, reduceCtorEq]
  refine loopL (σ := Nat) (fun s => ⟨[(3, .int .i64 0), (6, .sl [[.int .i64 x], [.int .i64 y]]), (7, .int .i64 2), (8, .int .i64 s)], []⟩) (fun s => s ≤ 2 ∧ (1 ≤ s → x = 0) ∧ (2 ≤ s → y = 0)) (fun s => 2 - s) 0 (by simp (config := {maxSteps := 2000000, implicitDefEqProofs := false}) (disch := omega) only [↓reduceIte, go_sem, Int.reduceToNat, Nat.reduceAdd, Nat.reduceLeDiff, Nat.reduceEqDiff, Nat.reduceSub, Nat.reduceMul, reduceCtorEq]; rfl) ⟨by omega, by omega, by omega⟩ ?_
  rintro s ⟨h1, h2, h3⟩
  have : s = 0 ∨ s = 1 ∨ s = 2 := by omega
  rcases this with rfl | rfl | rfl
  · simp (config := {maxSteps := 2000000, implicitDefEqProofs := false}) (disch := omega) only [↓reduceIte, go_sem, Int.reduceToNat, Nat.reduceAdd, Nat.reduceLeDiff, Nat.reduceEqDiff, Nat.reduceSub, Nat.reduceMul, reduceCtorEq]
    refine ifE (fun h => ?_) (fun h => ?_)
    · simp (config := {maxSteps := 2000000, implicitDefEqProofs := false}) (disch := omega) only [↓reduceIte, go_sem, Int.reduceToNat, Nat.reduceAdd, Nat.reduceLeDiff, Nat.reduceEqDiff, Nat.reduceSub, Nat.reduceMul, reduceCtorEq]
      exact ⟨1, by simp, ⟨by omega, fun _ => h, by omega⟩, by omega⟩
    · simp (config := {maxSteps := 2000000, implicitDefEqProofs := false}) (disch := omega) only [↓reduceIte, go_sem, Int.reduceToNat, Nat.reduceAdd, Nat.reduceLeDiff, Nat.reduceEqDiff, Nat.reduceSub, Nat.reduceMul, reduceCtorEq]
      exact ⟨by simp [h], rfl⟩
  · have h2 := h2 (by omega)
    simp (config := {maxSteps := 2000000, implicitDefEqProofs := false}) (disch := omega) only [↓reduceIte, go_sem, Int.reduceToNat, Nat.reduceAdd, Nat.reduceLeDiff, Nat.reduceEqDiff, Nat.reduceSub, Nat.reduceMul, reduceCtorEq]
    refine ifE (fun h => ?_) (fun h => ?_)
    · simp (config := {maxSteps := 2000000, implicitDefEqProofs := false}) (disch := omega) only [↓reduceIte, go_sem, Int.reduceToNat, Nat.reduceAdd, Nat.reduceLeDiff, Nat.reduceEqDiff, Nat.reduceSub, Nat.reduceMul, reduceCtorEq]
      exact ⟨2, by simp, ⟨by omega, fun _ => h2, fun _ => h⟩, by omega⟩
    · simp (config := {maxSteps := 2000000, implicitDefEqProofs := false}) (disch := omega) only [↓reduceIte, go_sem, Int.reduceToNat, Nat.reduceAdd, Nat.reduceLeDiff, Nat.reduceEqDiff, Nat.reduceSub, Nat.reduceMul, reduceCtorEq]
      exact ⟨by simp [h2], rfl⟩
  · have h2 := h2 (by omega)
    have h3 := h3 (by omega)
    simp (config := {maxSteps := 2000000, implicitDefEqProofs := false}) (disch := omega) only [↓reduceIte, go_sem, Int.reduceToNat, Nat.reduceAdd, Nat.reduceLeDiff, Nat.reduceEqDiff, Nat.reduceSub, Nat.reduceMul, reduceCtorEq]
    exact ⟨by simp [h2, h3], rfl⟩
theorem C35 (a b : Seg) : Ctr Try.prog 35 [.agg (encS a), .agg (encS b)] [] (ret [.int .i64 (cmpV a b)]) := by
  apply ctr_b A35_ok rfl (Nat.le_of_ble_eq_true rfl)
  unfold A35
  simp only [initL, Nat.reduceAdd]
  simp (config := {maxSteps := 2000000, implicitDefEqProofs := false}) (disch := omega) only [↓reduceIte, go_sem, Int.reduceToNat, Nat.reduceAdd, Nat.reduceLeDiff, Nat.reduceEqDiff, Nat.reduceSub, Nat.reduceMul, reduceCtorEq, encS]
  refine callL (C37 a.fr b.fr) ?_
  simp (config := {maxSteps := 2000000, implicitDefEqProofs := false}) (disch := omega) only [↓reduceIte, go_sem, Int.reduceToNat, Nat.reduceAdd, Nat.reduceLeDiff, Nat.reduceEqDiff, Nat.reduceSub, Nat.reduceMul, reduceCtorEq]
  refine callL (C37 a.v b.v) ?_
  simp (config := {maxSteps := 2000000, implicitDefEqProofs := false}) (disch := omega) only [↓reduceIte, go_sem, Int.reduceToNat, Nat.reduceAdd, Nat.reduceLeDiff, Nat.reduceEqDiff, Nat.reduceSub, Nat.reduceMul, reduceCtorEq]
  refine callL (C36 _ _) ?_
  simp (config := {maxSteps := 2000000, implicitDefEqProofs := false}) (disch := omega) only [↓reduceIte, go_sem, Int.reduceToNat, Nat.reduceAdd, Nat.reduceLeDiff, Nat.reduceEqDiff, Nat.reduceSub, Nat.reduceMul, reduceCtorEq]
  refine accL (by kernel_rfl) ?_
  simp (config := {maxSteps := 2000000, implicitDefEqProofs := false}) (disch := omega) only [↓reduceIte, go_sem, Int.reduceToNat, Nat.reduceAdd, Nat.reduceLeDiff, Nat.reduceEqDiff, Nat.reduceSub, Nat.reduceMul, reduceCtorEq]
  exact ⟨rfl, rfl⟩
end Go.Proofs.Ytcpjfjdlifjbhaa.X
namespace Go.Proofs.Ytcpjfjdlifjbhaa.X
open Go Go.AM Go.Proofs
attribute [local go_sem ↓] w_skip w_lbl w_ops w_draw w_pre w_post w_alt w_seq w_cond w_block w_loop w_exit w_ret w_scope w_rfunc l_nil l_cons th_n th_e th_r bk_n bk_r bk_e t_nil t_it t_call i_nil i_one i_grp s_nil s_cons c_call e_mv e_nil e_frz o_mov o_bin o_eq o_un o_conv o_len o_slen o_idx o_aix o_fad o_load o_store o_boxp o_boxo o_boxm o_alloc o_alloca o_nilarr o_build o_bslp o_bslo o_slc o_sslc o_slc3 o_sidx o_mkfn o_ext o_pick o_callf o_callb o_appd o_clear o_mxn o_field o_nilc o_make o_buildm o_boxg o_mkif o_tass o_eqs o_callo k_int k_str k_bool k_grb k_grt k_some k_none k_arr k_lens k_lenf k_lenh k_idxs k_idxf k_idxh k_ld k_loadp k_loadr k_loade k_storer k_storee k_oin k_ois k_slcs k_slcf k_slch k_slc3s k_slc3f k_slc3h k_app2 k_apps k_appf k_apph k_cals k_cald k_cali k_cnb k_cna k_esn k_esc k_efn k_efc k_esh b_add b_sub b_mul b_quo b_rem b_and b_or b_xor b_andNot b_eql b_neq b_lss b_leq b_gtr b_geq b_shl b_shr b_seq b_sne b_slt b_sad q_bool q_str q_nil q_nilf u_not u_neg u_xor f_ret f_nor v_r v_c v_reg v_ob v_set v_put v_so v_sn v_pn v_pc g_nil d_nil p_nil m_mv m_fr z_nil z_cons z_an z_ac g_cons d_cons p_cons y_mov y_bin y_eq y_un y_conv y_len y_slen y_idx y_aix y_fad y_load y_store y_boxp y_boxo y_boxm y_alloc y_alloca y_nilarr y_build y_bslp y_bslo y_slc y_sslc y_slc3 y_sidx y_mkfn y_ext y_pick y_callf y_callb y_appd y_clear y_mxn y_field y_nilc y_make y_buildm y_boxg y_mkif y_tass y_eqs y_callo nb_if
attribute [local go_sem] VL_mk VL2_mk If_t If_f If_not If_and If_or If_dt If_df If_et If_ef If_ne Ck_t Ck_h Opt_s ld_a ld_c renL ren keepR renA idxM invL getObs mapOb renOb allNone putAll fzR fzO fz fzL fzOb frzOk upFrom mapR resOne resA cellsOf oneA oneAL isP isPL okSt kRows kParts fillA setAt bor bor0 bor1 bor2 borC borI key0 key1 key2 keysA fillM cellsM cellM unif ptrA ifOk kPartsM getObsM allNoneM zipU scal0 scalar eqC evNil evNilF List.map_cons List.map_nil List.cons_append List.nil_append List.append_nil List.drop_zero List.drop_succ_cons List.drop_nil List.take_succ_cons List.take_zero List.take_nil List.length_cons List.length_nil List.length_map List.getElem?_map Option.map_some Option.map_none Int.toNat_natCast Int.toNat_zero Int.toNat_one Int.natCast_nonneg List.flatMap_cons List.flatMap_nil List.all_cons List.all_nil Bool.and_true Bool.true_and Bool.and_false Bool.false_and Bool.not_true Bool.not_false beq_self_eq_true nb_self all_nil List.forall_mem_cons tk_map tk_app bs_self bs_dec bq_t bq_f Bool.not_not decide_true decide_false Bool.not_not and_self and_true true_and eq_self List.reverse_cons List.reverse_nil List.getElem?_cons_zero List.getElem?_cons_succ cond_true cond_false List.set_cons_zero List.set_cons_succ Nat.zero_add Nat.add_zero if_true if_false ite_true ite_false implies_true wrap64 wrap8
set_option linter.unusedVariables false
set_option linter.unusedSimpArgs false
set_option maxRecDepth 10000
instance : Inhabited Seg := ⟨⟨0, 0, 0, ⟨0, 0, 0⟩⟩⟩
def swpT (T : List Tg) (i j : Nat) : List Tg := (T.set i T[j]!).set j T[i]!
theorem swpT_len (T : List Tg) (i j : Nat) : (swpT T i j).length = T.length := by simp [swpT]
theorem bangT {T : List Tg} {i : Nat} (h : i < T.length) : T[i]? = some T[i]! := by simp [h]
theorem swpT_get {T : List Tg} {i j k : Nat} (hi : i < T.length) (hj : j < T.length) (hk : k < T.length) : (swpT T i j)[k]! = if k = j then T[i]! else if k = i then T[j]! else T[k]! := by
  have hk' : k < (swpT T i j).length := by rw [swpT_len]; exact hk
  have := bangT hk'
  unfold swpT at this ⊢
  rw [List.getElem?_set, List.getElem?_set] at this
  by_cases h1 : k = j
  · subst h1
    rw [if_pos rfl, if_pos (by simpa using hk)] at this
    rw [if_pos rfl]
    exact (Option.some.inj this).symm
  · rw [if_neg (Ne.symm h1)] at this
    rw [if_neg h1]
    by_cases h2 : k = i
    · subst h2
      rw [if_pos rfl, if_pos (by simpa using hk)] at this
      rw [if_pos rfl]
      exact (Option.some.inj this).symm
    · rw [if_neg (Ne.symm h2), bangT hk] at this
      rw [if_neg h2]
      exact (Option.some.inj this).symm
theorem swpT_perm {T : List Tg} {i j : Nat} (hi : i < T.length) (hj : j < T.length) : (swpT T i j).Perm T := by
  rw [List.perm_iff_count]
  intro x
  unfold swpT
  have e1 : T[i]! = T[i] := by simp [hi]
  have e2 : T[j]! = T[j] := by simp [hj]
  rw [e1, e2, List.count_set (by simpa using hj), List.count_set hi, List.getElem_set]
  have c1 : (if T[i] == x then 1 else 0) ≤ T.count x := by
    split
    · rename_i h
      have hm := List.getElem_mem hi
      rw [eq_of_beq h] at hm
      exact List.count_pos_iff.2 hm
    · exact Nat.zero_le _
  by_cases h : i = j
  · subst h
    rw [if_pos rfl]
    by_cases h1 : T[i] == x
    · simp only [h1, if_true] at *
      omega
    · simp only [h1] at *
      simp only [Bool.false_eq_true, if_false]
      omega
  · rw [if_neg h]
    by_cases h1 : T[i] == x <;> by_cases h2 : T[j] == x
    · simp only [h1, h2, if_true] at *
      omega
    · simp only [h1, h2, if_true] at *
      simp only [Bool.false_eq_true, if_false]
      omega
    · simp only [h1, h2, if_true] at *
      simp only [Bool.false_eq_true, if_false]
      omega
    · simp only [h1, h2] at *
      simp only [Bool.false_eq_true, if_false]
      omega
/-- In order; of equal ones, who stood first. -/
def ltT (x y : Tg) : Prop := x.1.fr < y.1.fr ∨ (x.1.fr = y.1.fr ∧ (x.1.v < y.1.v ∨ (x.1.v = y.1.v ∧ x.2 < y.2)))
theorem ltT_trans {x y z : Tg} (h : ltT x y) (k : ltT y z) : ltT x z := by unfold ltT at *; omega
theorem cmpV_neg (a b : Seg) : cmpV a b < 0 ↔ a.fr < b.fr ∨ (a.fr = b.fr ∧ a.v < b.v) := by
  unfold cmpV c3
  repeat' split
  all_goals omega
/-- T' is T, of which what lies from a on, ahead of b, has another order. -/
structure Mixed (T T' : List Tg) (a b : Nat) : Prop where
  perm : T'.Perm T
  rest : ∀ i, ¬ (a ≤ i ∧ i < b) → T'[i]! = T[i]!
theorem Mixed.refl (T : List Tg) (a b : Nat) : Mixed T T a b := ⟨List.Perm.refl _, fun _ _ => rfl⟩
theorem Mixed.len {T T' : List Tg} {a b : Nat} (h : Mixed T T' a b) : T'.length = T.length := h.perm.length_eq
theorem Mixed.swp {T T' : List Tg} {a b i j : Nat} (h : Mixed T T' a b) (hi : a ≤ i) (hi' : i < b) (hj : a ≤ j) (hj' : j < b) (hb : b ≤ T.length) : Mixed T (swpT T' i j) a b := by
  have hl := h.len
  refine ⟨(swpT_perm (by omega) (by omega)).trans h.perm, fun k hk => ?_⟩
  by_cases hkl : k < T'.length
  · rw [swpT_get (by omega) (by omega) hkl, if_neg (by omega), if_neg (by omega)]
    exact h.rest k hk
  · have e1 : (swpT T' i j)[k]? = none := List.getElem?_eq_none (by rw [swpT_len]; omega)
    have e2 : T[k]? = none := List.getElem?_eq_none (by omega)
    simp [e1, e2]
def SortedT (T : List Tg) (a b : Nat) : Prop := ∀ i j, a ≤ i → i < j → j < b → ltT T[i]! T[j]!
theorem C61 (v : Nat) (T : List Tg) (a b : Nat) (hab : a ≤ b) (hb : b ≤ T.length) (hl : T.length < 1000000) (htag : ∀ k, a ≤ k → k < b → T[k]!.2 = k) :
    Ctr Try.prog 61 [.hs 0 v 0 T.length, .int .i64 a, .int .i64 b, cF] (rowT v T) (fun r o => ∃ T', r = [] ∧ o = rowT v T' ∧ Mixed T T' a b ∧ SortedT T' a b ∧ ∀ k, a ≤ k → k < b → a ≤ T'[k]!.2 ∧ T'[k]!.2 < b) := by
  apply ctr_b A61_ok rfl (Nat.le_of_ble_eq_true rfl)
  unfold A61
  simp only [rowT, initL, Nat.reduceAdd]
  simp (config := {maxSteps := 2000000, implicitDefEqProofs := false}) (disch := omega) only [↓reduceIte, go_sem, Int.reduceToNat, Nat.reduceAdd, Nat.reduceLeDiff, Nat.reduceEqDiff, Nat.reduceSub, Nat.reduceMul, reduceCtorEq]
  refine loopL (σ := Nat × List Tg) (fun s => ⟨[(0, .hs 0 v 0 T.length), (1, .int .i64 a), (2, .int .i64 b), (3, cF), (8, .int .i64 s.1)], [(0, .arr v 6 (s.2.map encT))]⟩)
    (fun s => a + 1 ≤ s.1 ∧ (s.1 ≤ b ∨ s.1 = a + 1) ∧ Mixed T s.2 a b ∧ SortedT s.2 a s.1 ∧ (∀ k, a ≤ k → k < s.1 → k < b → a ≤ s.2[k]!.2 ∧ s.2[k]!.2 < s.1) ∧ (∀ k, s.1 ≤ k → k < b → s.2[k]!.2 = k)) (fun s => b - s.1) (a + 1, T) (by simp (config := {maxSteps := 2000000, implicitDefEqProofs := false}) (disch := omega) only [↓reduceIte, go_sem, Int.reduceToNat, Nat.reduceAdd, Nat.reduceLeDiff, Nat.reduceEqDiff, Nat.reduceSub, Nat.reduceMul, reduceCtorEq]; rfl)
    ⟨Nat.le_refl _, .inr rfl, .refl _ _ _, fun i j h1 h2 h3 => by simp only at h3; omega, fun k h1 h2 h3 => by simp only at h2 ⊢; have := htag k h1 h3; omega, fun k h1 h2 => htag k (by simp only at h1; omega) h2⟩ ?_
  rintro ⟨i, T1⟩ ⟨h1, h2, h3, h4, h5, h6⟩
  simp only at h1 h2 h3 h4 h5 h6
  have hlen := h3.len
  simp (config := {maxSteps := 2000000, implicitDefEqProofs := false}) (disch := omega) only [↓reduceIte, go_sem, Int.reduceToNat, Nat.reduceAdd, Nat.reduceLeDiff, Nat.reduceEqDiff, Nat.reduceSub, Nat.reduceMul, reduceCtorEq]
  refine ifD (fun g => ?_) (fun g => ?_)
  · simp (config := {maxSteps := 2000000, implicitDefEqProofs := false}) (disch := omega) only [↓reduceIte, go_sem, Int.reduceToNat, Nat.reduceAdd, Nat.reduceLeDiff, Nat.reduceEqDiff, Nat.reduceSub, Nat.reduceMul, reduceCtorEq]
    refine loopL (σ := Nat × List Tg) (fun s => ⟨[(0, .hs 0 v 0 T.length), (1, .int .i64 a), (2, .int .i64 b), (3, cF), (8, .int .i64 i), (9, .int .i64 s.1)], [(0, .arr v 6 (s.2.map encT))]⟩)
      (fun s => a ≤ s.1 ∧ s.1 ≤ i ∧ Mixed T s.2 a b ∧ (∀ p q, a ≤ p → p < q → q ≤ i → p ≠ s.1 → q ≠ s.1 → ltT s.2[p]! s.2[q]!) ∧ (∀ q, s.1 < q → q ≤ i → ltT s.2[s.1]! s.2[q]!) ∧ s.2[s.1]!.2 = i ∧ (∀ p, a ≤ p → p ≤ i → p ≠ s.1 → a ≤ s.2[p]!.2 ∧ s.2[p]!.2 < i) ∧ (∀ k, i + 1 ≤ k → k < b → s.2[k]!.2 = k)) (fun s => s.1) (i, T1) (by simp (config := {maxSteps := 2000000, implicitDefEqProofs := false}) (disch := omega) only [↓reduceIte, go_sem, Int.reduceToNat, Nat.reduceAdd, Nat.reduceLeDiff, Nat.reduceEqDiff, Nat.reduceSub, Nat.reduceMul, reduceCtorEq])
      ⟨by simp only; omega, Nat.le_refl _, h3, fun p q e1 e2 e3 e4 e5 => h4 p q e1 e2 (by simp only at e5; omega), fun q e1 e2 => by simp only at e1; omega, h6 i (Nat.le_refl _) (by omega), fun p e1 e2 e3 => h5 p e1 (by simp only at e3; omega) (by omega), fun k e1 e2 => h6 k (by omega) e2⟩ ?_
    rintro ⟨j, T2⟩ ⟨k1, k2, k3, k4, k5, k6, k7, k8⟩
    simp only at k1 k2 k3 k4 k5 k6 k7 k8
    have hlen2 := k3.len
    have done : (a < j → ¬ cmpV T2[j]!.1 T2[j - 1]!.1 < 0) → SortedT T2 a (i + 1) := by
      intro hc p q e1 e2 e3
      by_cases c1 : q = j
      · subst c1
        have hlast : ltT T2[q - 1]! T2[q]! := by
          have hc := hc (by omega)
          rw [cmpV_neg] at hc
          have := k7 (q - 1) (by omega) (by omega) (by omega)
          unfold ltT
          omega
        by_cases c2 : p = q - 1
        · rw [c2]; exact hlast
        · exact ltT_trans (k4 p (q - 1) e1 (by omega) (by omega) (by omega) (by omega)) hlast
      · by_cases c2 : p = j
        · subst c2
          exact k5 q e2 (by omega)
        · exact k4 p q e1 e2 (by omega) c2 c1
    have b1 : (T2.map encT)[j]? = some (encS T2[j]!.1) := by rw [List.getElem?_map, bangT (by omega)]; rfl
    have b2 : a < j → (T2.map encT)[j - 1]? = some (encS T2[j - 1]!.1) := by intro h; rw [List.getElem?_map, bangT (by omega)]; rfl
    have t1 : a < j → ((j : Int) - 1).toNat = j - 1 := by omega
    have next : SortedT T2 a (i + 1) → (∀ k, a ≤ k → k < i + 1 → k < b → a ≤ T2[k]!.2 ∧ T2[k]!.2 < i + 1) := by
      intro _ k e1 e2 e3
      by_cases c : k = j
      · rw [c, k6]; omega
      · have := k7 k e1 (by omega) c; omega
    simp only [encS] at b1 b2
    simp (config := {maxSteps := 2000000, implicitDefEqProofs := false}) (disch := omega) only [↓reduceIte, go_sem, Int.reduceToNat, Nat.reduceAdd, Nat.reduceLeDiff, Nat.reduceEqDiff, Nat.reduceSub, Nat.reduceMul, reduceCtorEq]
    refine ifD (fun g2 => ?_) (fun g2 => ?_)
    · have hja : a < j := by omega
      have b2 := b2 hja
      have t1 := t1 hja
      simp only [List.getElem?_map] at b1 b2
      simp (config := {maxSteps := 2000000, implicitDefEqProofs := false}) (disch := omega) only [↓reduceIte, go_sem, Int.reduceToNat, Nat.reduceAdd, Nat.reduceLeDiff, Nat.reduceEqDiff, Nat.reduceSub, Nat.reduceMul, reduceCtorEq, t1, b1, b2]
      refine callL (C35 T2[j]!.1 T2[j - 1]!.1) ?_
      simp (config := {maxSteps := 2000000, implicitDefEqProofs := false}) (disch := omega) only [↓reduceIte, go_sem, Int.reduceToNat, Nat.reduceAdd, Nat.reduceLeDiff, Nat.reduceEqDiff, Nat.reduceSub, Nat.reduceMul, reduceCtorEq]
      refine accL (by kernel_rfl) ?_
      simp (config := {maxSteps := 2000000, implicitDefEqProofs := false}) (disch := omega) only [↓reduceIte, go_sem, Int.reduceToNat, Nat.reduceAdd, Nat.reduceLeDiff, Nat.reduceEqDiff, Nat.reduceSub, Nat.reduceMul, reduceCtorEq]
      refine ifD (fun g3 => ?_) (fun g3 => ?_)
      · have e1 := rset_get (T := T2) (i := j) (j := j - 1) (y := T2[j - 1]!) (by omega) (bangT (by omega))
        have e2 : ((T2.map encT).set j (encT T2[j - 1]!)).set (j - 1) (encT T2[j]!) = (swpT T2 j (j - 1)).map encT := rset T2 j (j - 1) T2[j]! T2[j - 1]!
        simp only [encT, encS] at e1 e2
        simp (config := {maxSteps := 2000000, implicitDefEqProofs := false}) (disch := omega) only [↓reduceIte, go_sem, Int.reduceToNat, Nat.reduceAdd, Nat.reduceLeDiff, Nat.reduceEqDiff, Nat.reduceSub, Nat.reduceMul, reduceCtorEq, t1, b1, b2, e1, e2]
        refine accL (by kernel_rfl) ?_
        simp (config := {maxSteps := 2000000, implicitDefEqProofs := false}) (disch := omega) only [↓reduceIte, go_sem, Int.reduceToNat, Nat.reduceAdd, Nat.reduceLeDiff, Nat.reduceEqDiff, Nat.reduceSub, Nat.reduceMul, reduceCtorEq, t1, b1, b2, e1, e2]
        have G : ∀ k, k < T2.length → (swpT T2 j (j - 1))[k]! = if k = j - 1 then T2[j]! else if k = j then T2[j - 1]! else T2[k]! := fun k hk => swpT_get (by omega) (by omega) hk
        have hc : ltT T2[j]! T2[j - 1]! := by rw [cmpV_neg] at g3; unfold ltT; omega
        refine ⟨(j - 1, swpT T2 j (j - 1)), ?_, ⟨by simp only; omega, by simp only; omega, k3.swp (by omega) (by omega) (by omega) (by omega) hb, ?_, ?_, ?_, ?_, ?_⟩, by simp only; omega⟩
        · simp
          omega
        · intro p q e1 e2 e3 e4 e5
          simp only at e4 e5
          simp only
          rw [G p (by omega), G q (by omega), if_neg e4, if_neg e5]
          by_cases c1 : p = j
          · rw [if_pos c1, if_neg (by omega)]
            exact k4 (j - 1) q (by omega) (by omega) e3 (by omega) (by omega)
          · rw [if_neg c1]
            by_cases c2 : q = j
            · rw [if_pos c2]
              exact k4 p (j - 1) e1 (by omega) (by omega) c1 (by omega)
            · rw [if_neg c2]
              exact k4 p q e1 e2 e3 c1 c2
        · intro q e1 e2
          simp only at e1
          simp only
          rw [G (j - 1) (by omega), G q (by omega), if_pos rfl, if_neg (by omega)]
          by_cases c : q = j
          · rw [if_pos c]; exact hc
          · rw [if_neg c]; exact k5 q (by omega) e2
        · simp only
          rw [G (j - 1) (by omega), if_pos rfl]
          exact k6
        · intro p e1 e2 e3
          simp only at e3
          simp only
          rw [G p (by omega), if_neg e3]
          by_cases c : p = j
          · rw [if_pos c]; exact k7 (j - 1) (by omega) (by omega) (by omega)
          · rw [if_neg c]; exact k7 p e1 e2 c
        · intro k e1 e2
          simp only
          rw [G k (by omega), if_neg (by omega), if_neg (by omega)]
          exact k8 k e1 e2
      · simp (config := {maxSteps := 2000000, implicitDefEqProofs := false}) (disch := omega) only [↓reduceIte, go_sem, Int.reduceToNat, Nat.reduceAdd, Nat.reduceLeDiff, Nat.reduceEqDiff, Nat.reduceSub, Nat.reduceMul, reduceCtorEq]
        have hd := done fun _ => g3
        exact ⟨(i + 1, T2), by simp, ⟨by simp only; omega, .inl (by simp only; omega), k3, hd, next hd, fun k e1 e2 => k8 k e1 e2⟩, by simp only; omega⟩
    · simp (config := {maxSteps := 2000000, implicitDefEqProofs := false}) (disch := omega) only [↓reduceIte, go_sem, Int.reduceToNat, Nat.reduceAdd, Nat.reduceLeDiff, Nat.reduceEqDiff, Nat.reduceSub, Nat.reduceMul, reduceCtorEq]
      refine accL (by kernel_rfl) ?_
      simp (config := {maxSteps := 2000000, implicitDefEqProofs := false}) (disch := omega) only [↓reduceIte, go_sem, Int.reduceToNat, Nat.reduceAdd, Nat.reduceLeDiff, Nat.reduceEqDiff, Nat.reduceSub, Nat.reduceMul, reduceCtorEq]
      have hd := done fun h => absurd h (by omega)
      exact ⟨(i + 1, T2), by simp, ⟨by simp only; omega, .inl (by simp only; omega), k3, hd, next hd, fun k e1 e2 => k8 k e1 e2⟩, by simp only; omega⟩
  · simp (config := {maxSteps := 2000000, implicitDefEqProofs := false}) (disch := omega) only [↓reduceIte, go_sem, Int.reduceToNat, Nat.reduceAdd, Nat.reduceLeDiff, Nat.reduceEqDiff, Nat.reduceSub, Nat.reduceMul, reduceCtorEq]
    refine ⟨T1, rfl, h3, ?_, ?_⟩
    · intro p q e1 e2 e3
      exact h4 p q e1 e2 (by omega)
    · intro k e1 e2
      have := h5 k e1 (by omega) e2
      omega
end Go.Proofs.Ytcpjfjdlifjbhaa.X
namespace Go.Proofs.Ytcpjfjdlifjbhaa.X
open Go Go.AM Go.Proofs
attribute [local go_sem ↓] w_skip w_lbl w_ops w_draw w_pre w_post w_alt w_seq w_cond w_block w_loop w_exit w_ret w_scope w_rfunc l_nil l_cons th_n th_e th_r bk_n bk_r bk_e t_nil t_it t_call i_nil i_one i_grp s_nil s_cons c_call e_mv e_nil e_frz o_mov o_bin o_eq o_un o_conv o_len o_slen o_idx o_aix o_fad o_load o_store o_boxp o_boxo o_boxm o_alloc o_alloca o_nilarr o_build o_bslp o_bslo o_slc o_sslc o_slc3 o_sidx o_mkfn o_ext o_pick o_callf o_callb o_appd o_clear o_mxn o_field o_nilc o_make o_buildm o_boxg o_mkif o_tass o_eqs o_callo k_int k_str k_bool k_grb k_grt k_some k_none k_arr k_lens k_lenf k_lenh k_idxs k_idxf k_idxh k_ld k_loadp k_loadr k_loade k_storer k_storee k_oin k_ois k_slcs k_slcf k_slch k_slc3s k_slc3f k_slc3h k_app2 k_apps k_appf k_apph k_cals k_cald k_cali k_cnb k_cna k_esn k_esc k_efn k_efc k_esh b_add b_sub b_mul b_quo b_rem b_and b_or b_xor b_andNot b_eql b_neq b_lss b_leq b_gtr b_geq b_shl b_shr b_seq b_sne b_slt b_sad q_bool q_str q_nil q_nilf u_not u_neg u_xor f_ret f_nor v_r v_c v_reg v_ob v_set v_put v_so v_sn v_pn v_pc g_nil d_nil p_nil m_mv m_fr z_nil z_cons z_an z_ac g_cons d_cons p_cons y_mov y_bin y_eq y_un y_conv y_len y_slen y_idx y_aix y_fad y_load y_store y_boxp y_boxo y_boxm y_alloc y_alloca y_nilarr y_build y_bslp y_bslo y_slc y_sslc y_slc3 y_sidx y_mkfn y_ext y_pick y_callf y_callb y_appd y_clear y_mxn y_field y_nilc y_make y_buildm y_boxg y_mkif y_tass y_eqs y_callo nb_if
attribute [local go_sem] VL_mk VL2_mk If_t If_f If_not If_and If_or If_dt If_df If_et If_ef If_ne Ck_t Ck_h Opt_s ld_a ld_c renL ren keepR renA idxM invL getObs mapOb renOb allNone putAll fzR fzO fz fzL fzOb frzOk upFrom mapR resOne resA cellsOf oneA oneAL isP isPL okSt kRows kParts fillA setAt bor bor0 bor1 bor2 borC borI key0 key1 key2 keysA fillM cellsM cellM unif ptrA ifOk kPartsM getObsM allNoneM zipU scal0 scalar eqC evNil evNilF List.map_cons List.map_nil List.cons_append List.nil_append List.append_nil List.drop_zero List.drop_succ_cons List.drop_nil List.take_succ_cons List.take_zero List.take_nil List.length_cons List.length_nil List.length_map List.getElem?_map Option.map_some Option.map_none Int.toNat_natCast Int.toNat_zero Int.toNat_one Int.natCast_nonneg List.flatMap_cons List.flatMap_nil List.all_cons List.all_nil Bool.and_true Bool.true_and Bool.and_false Bool.false_and Bool.not_true Bool.not_false beq_self_eq_true nb_self all_nil List.forall_mem_cons tk_map tk_app bs_self bs_dec bq_t bq_f Bool.not_not decide_true decide_false Bool.not_not and_self and_true true_and eq_self List.reverse_cons List.reverse_nil List.getElem?_cons_zero List.getElem?_cons_succ cond_true cond_false List.set_cons_zero List.set_cons_succ Nat.zero_add Nat.add_zero if_true if_false ite_true ite_false implies_true wrap64 wrap8
set_option linter.unusedVariables false
set_option linter.unusedSimpArgs false
set_option maxRecDepth 10000
theorem swapped_perm : ∀ {n : Nat} {T T' : List Tg} {a b : Nat}, a + n ≤ b → b + n ≤ T.length → Swapped T T' a b n → T'.Perm T
  | 0, T, T', a, b, h1, h2, h => by
    have : T' = T := by
      apply List.ext_getElem?
      intro i
      rw [h.2 i, if_neg (by omega), if_neg (by omega)]
    rw [this]
  | n + 1, T, T', a, b, h1, h2, h => by
    have hl := h.1
    refine (swpT_perm (T := T') (i := a + n) (j := b + n) (by omega) (by omega)).symm.trans (swapped_perm (n := n) (a := a) (b := b) (by omega) (by omega) ⟨by rw [swpT_len]; exact hl, fun i => ?_⟩)
    by_cases hi : i < T'.length
    · have hx : (swpT T' (a + n) (b + n))[i]? = some (swpT T' (a + n) (b + n))[i]! := bangT (by rw [swpT_len]; exact hi)
      rw [hx, swpT_get (by omega) (by omega) hi]
      by_cases c1 : i = b + n
      · subst c1
        rw [if_pos rfl, if_neg (show ¬ (a ≤ b + n ∧ b + n < a + n) by omega), if_neg (show ¬ (b ≤ b + n ∧ b + n < b + n) by omega), ← bangT (by omega), h.2, if_pos (show a ≤ a + n ∧ a + n < a + (n + 1) by omega)]
        congr 1
        omega
      · rw [if_neg c1]
        by_cases c2 : i = a + n
        · subst c2
          rw [if_pos rfl, if_neg (show ¬ (a ≤ a + n ∧ a + n < a + n) by omega), if_neg (show ¬ (b ≤ a + n ∧ a + n < b + n) by omega), ← bangT (by omega), h.2, if_neg (show ¬ (a ≤ b + n ∧ b + n < a + (n + 1)) by omega), if_pos (show b ≤ b + n ∧ b + n < b + (n + 1) by omega)]
          congr 1
          omega
        · rw [if_neg c2, ← bangT hi, h.2]
          by_cases c3 : a ≤ i ∧ i < a + n
          · rw [if_pos c3, if_pos (show a ≤ i ∧ i < a + (n + 1) by omega)]
          · rw [if_neg c3, if_neg (show ¬ (a ≤ i ∧ i < a + (n + 1)) by omega)]
            by_cases c4 : b ≤ i ∧ i < b + n
            · rw [if_pos c4, if_pos (show b ≤ i ∧ i < b + (n + 1) by omega)]
            · rw [if_neg c4, if_neg (show ¬ (b ≤ i ∧ i < b + (n + 1)) by omega)]
    · have e1 : (swpT T' (a + n) (b + n))[i]? = none := List.getElem?_eq_none (by rw [swpT_len]; omega)
      rw [e1, if_neg (by omega), if_neg (by omega)]
      exact (List.getElem?_eq_none (by omega)).symm
/-- Where what stands at k, when the blocks from a to m and from m to b have changed about, stood. -/
def rotI (a m b k : Nat) : Nat := if a ≤ k ∧ k < a + (b - m) then m + (k - a) else if a + (b - m) ≤ k ∧ k < b then a + (k - (a + (b - m))) else k
def swI (a b n k : Nat) : Nat := if a ≤ k ∧ k < a + n then b + (k - a) else if b ≤ k ∧ k < b + n then a + (k - b) else k
theorem Swapped.at {T T' : List Tg} {a b n : Nat} (h : Swapped T T' a b n) (i : Nat) : T'[i]? = T[swI a b n i]? := by
  rw [h.2 i]
  unfold swI
  split
  · rfl
  · split <;> rfl
def Rotated (T T' : List Tg) (a m b : Nat) : Prop := T'.Perm T ∧ ∀ i, T'[i]? = T[rotI a m b i]?
theorem rot_big (m i j k : Nat) (h : j < i) (hi : i ≤ m) : swI (m - i) m j (rotI (m - (i - j)) m (m + j) k) = rotI (m - i) m (m + j) k := by
  unfold swI rotI
  repeat' split
  all_goals omega
theorem rot_small (m i j k : Nat) (h : i < j) (hi : i ≤ m) : swI (m - i) (m + j - i) i (rotI (m - i) m (m + (j - i)) k) = rotI (m - i) m (m + j) k := by
  unfold swI rotI
  repeat' split
  all_goals omega
theorem rot_same (m i k : Nat) (hi : i ≤ m) : swI (m - i) m i k = rotI (m - i) m (m + i) k := by
  unfold swI rotI
  repeat' split
  all_goals omega
theorem C64i (v : Nat) (T : List Tg) (a b n : Nat) (x y z : Int) (L : Nat) (ex : x = a) (ey : y = b) (ez : z = n) (eL : L = T.length) (h1 : a + n ≤ b) (h2 : b + n ≤ T.length) (hl : T.length < 1000000) :
    Ctr Try.prog 64 [.hs 0 v 0 L, .int .i64 x, .int .i64 y, .int .i64 z, cF] (rowT v T) (fun r o => ∃ T', r = [] ∧ o = rowT v T' ∧ Swapped T T' a b n) := by
  subst ex ey ez eL; exact C64 v T a b n h1 h2 hl
theorem C63 (v : Nat) (T : List Tg) (a m b : Nat) (h1 : a < m) (h2 : m < b) (h3 : b ≤ T.length) (hl : T.length < 1000000) :
    Ctr Try.prog 63 [.hs 0 v 0 T.length, .int .i64 a, .int .i64 m, .int .i64 b, cF] (rowT v T) (fun r o => ∃ T', r = [] ∧ o = rowT v T' ∧ Rotated T T' a m b) := by
  apply ctr_b A63_ok rfl (Nat.le_of_ble_eq_true rfl)
  unfold A63
  simp only [rowT, initL, Nat.reduceAdd]
  simp (config := {maxSteps := 2000000, implicitDefEqProofs := false}) (disch := omega) only [↓reduceIte, go_sem, Int.reduceToNat, Nat.reduceAdd, Nat.reduceLeDiff, Nat.reduceEqDiff, Nat.reduceSub, Nat.reduceMul, reduceCtorEq]
  refine loopL (σ := Nat × Nat × List Tg) (fun s => ⟨[(0, .hs 0 v 0 T.length), (2, .int .i64 m), (4, cF), (10, .int .i64 s.1), (11, .int .i64 s.2.1)], [(0, .arr v 6 (s.2.2.map encT))]⟩)
    (fun s => 0 < s.1 ∧ 0 < s.2.1 ∧ s.1 ≤ m - a ∧ s.2.1 ≤ b - m ∧ s.2.2.Perm T ∧ ∀ k, s.2.2[rotI (m - s.1) m (m + s.2.1) k]? = T[rotI a m b k]?) (fun s => s.1 + s.2.1) (m - a, b - m, T) (by simp (config := {maxSteps := 2000000, implicitDefEqProofs := false}) (disch := omega) only [↓reduceIte, go_sem, Int.reduceToNat, Nat.reduceAdd, Nat.reduceLeDiff, Nat.reduceEqDiff, Nat.reduceSub, Nat.reduceMul, reduceCtorEq]; simp; omega)
    ⟨by simp only; omega, by simp only; omega, Nat.le_refl _, Nat.le_refl _, List.Perm.refl _, fun k => by simp only; rw [show m - (m - a) = a by omega, show m + (b - m) = b by omega]⟩ ?_
  rintro ⟨i, j, T1⟩ ⟨g1, g2, g3, g4, g5, g6⟩
  simp only at g1 g2 g3 g4 g5 g6
  have hlen := g5.length_eq
  simp (config := {maxSteps := 2000000, implicitDefEqProofs := false}) (disch := omega) only [↓reduceIte, go_sem, Int.reduceToNat, Nat.reduceAdd, Nat.reduceLeDiff, Nat.reduceEqDiff, Nat.reduceSub, Nat.reduceMul, reduceCtorEq]
  refine ifE (fun e => ?_) (fun e => ?_)
  · have e : i = j := by omega
    subst e
    simp (config := {maxSteps := 2000000, implicitDefEqProofs := false}) (disch := omega) only [↓reduceIte, go_sem, Int.reduceToNat, Nat.reduceAdd, Nat.reduceLeDiff, Nat.reduceEqDiff, Nat.reduceSub, Nat.reduceMul, reduceCtorEq]
    refine callO (C64i v T1 (m - i) m i _ _ _ _ (by omega) rfl rfl hlen.symm (by omega) (by omega) (by omega)) ?_
    rintro r o ⟨T2, rfl, rfl, hs⟩
    simp (config := {maxSteps := 2000000, implicitDefEqProofs := false}) (disch := omega) only [↓reduceIte, go_sem, Int.reduceToNat, Nat.reduceAdd, Nat.reduceLeDiff, Nat.reduceEqDiff, Nat.reduceSub, Nat.reduceMul, reduceCtorEq, rowT]
    refine ⟨T2, rfl, (swapped_perm (by omega) (by omega) hs).trans g5, fun k => ?_⟩
    rw [hs.at, rot_same m i k (by omega)]
    exact g6 k
  · simp (config := {maxSteps := 2000000, implicitDefEqProofs := false}) (disch := omega) only [↓reduceIte, go_sem, Int.reduceToNat, Nat.reduceAdd, Nat.reduceLeDiff, Nat.reduceEqDiff, Nat.reduceSub, Nat.reduceMul, reduceCtorEq]
    refine ifD (fun e2 => ?_) (fun e2 => ?_)
    · simp (config := {maxSteps := 2000000, implicitDefEqProofs := false}) (disch := omega) only [↓reduceIte, go_sem, Int.reduceToNat, Nat.reduceAdd, Nat.reduceLeDiff, Nat.reduceEqDiff, Nat.reduceSub, Nat.reduceMul, reduceCtorEq]
      refine callO (C64i v T1 (m - i) m j _ _ _ _ (by omega) rfl rfl hlen.symm (by omega) (by omega) (by omega)) ?_
      rintro r o ⟨T2, rfl, rfl, hs⟩
      simp (config := {maxSteps := 2000000, implicitDefEqProofs := false}) (disch := omega) only [↓reduceIte, go_sem, Int.reduceToNat, Nat.reduceAdd, Nat.reduceLeDiff, Nat.reduceEqDiff, Nat.reduceSub, Nat.reduceMul, reduceCtorEq, rowT]
      refine ⟨(i - j, j, T2), by simp; omega, ⟨by simp only; omega, by simp only; omega, by simp only; omega, by simp only; omega, (swapped_perm (by omega) (by omega) hs).trans g5, fun k => ?_⟩, by simp only; omega⟩
      simp only
      rw [hs.at, rot_big m i j k (by omega) (by omega)]
      exact g6 k
    · simp (config := {maxSteps := 2000000, implicitDefEqProofs := false}) (disch := omega) only [↓reduceIte, go_sem, Int.reduceToNat, Nat.reduceAdd, Nat.reduceLeDiff, Nat.reduceEqDiff, Nat.reduceSub, Nat.reduceMul, reduceCtorEq]
      refine callO (C64i v T1 (m - i) (m + j - i) i _ _ _ _ (by omega) (by omega) rfl hlen.symm (by omega) (by omega) (by omega)) ?_
      rintro r o ⟨T2, rfl, rfl, hs⟩
      simp (config := {maxSteps := 2000000, implicitDefEqProofs := false}) (disch := omega) only [↓reduceIte, go_sem, Int.reduceToNat, Nat.reduceAdd, Nat.reduceLeDiff, Nat.reduceEqDiff, Nat.reduceSub, Nat.reduceMul, reduceCtorEq, rowT]
      refine ⟨(i, j - i, T2), by simp; omega, ⟨by simp only; omega, by simp only; omega, by simp only; omega, by simp only; omega, (swapped_perm (by omega) (by omega) hs).trans g5, fun k => ?_⟩, by simp only; omega⟩
      simp only
      rw [hs.at, rot_small m i j k (by omega) (by omega)]
      exact g6 k
end Go.Proofs.Ytcpjfjdlifjbhaa.X
