/- The graph's blocks as they are left. -/
import Derived.Test.YticjemfgbfphdaaXc
import Derived.Test.YticjemfgbfphdaaXd
import Derived.Test.YticjemfgbfphdaaXb
namespace Go.Proofs.Yticjemfgbfphdaa.X
open Go Go.AM Go.Proofs
attribute [local go_sem ↓] w_skip w_lbl w_ops w_draw w_pre w_post w_alt w_seq w_cond w_block w_join w_loop w_exit w_ret w_scope w_rfunc l_nil l_cons th_n th_e th_r bk_n bk_r bk_e t_nil t_it t_call i_nil i_one i_grp s_nil s_cons c_call e_mv e_nil e_dyn e_nilb e_frz o_mov o_bin o_eq o_un o_conv o_len o_slen o_idx o_aix o_fad o_load o_store o_boxp o_boxo o_boxm o_alloc o_allocm o_alloca o_nilarr o_build o_bslp o_bslo o_slc o_sslc o_slc3 o_sidx o_mkfn o_mkmv o_vidx o_ext o_pick o_callf o_callb o_appd o_clear o_mxn o_field o_nilc o_make o_makeb o_buildm o_boxg o_mkif o_tass o_eqs o_callo o_callx k_int k_str k_bool k_grb k_grt k_some k_none k_arr k_lens k_lenf k_lenh k_lenb k_idxb k_idxs k_idxf k_idxh k_ld k_loadp k_loadr k_loade k_storer k_storee k_oin k_ois k_slcs k_slcf k_slch k_slc3s k_slc3f k_slc3h k_app2 k_apps k_appf k_apph k_cals k_cald k_cali k_cnb k_cna k_esn k_esc k_efn k_efc k_esh b_add b_sub b_mul b_quo b_rem b_and b_or b_xor b_andNot b_eql b_neq b_lss b_leq b_gtr b_geq b_shl b_shr b_seq b_sne b_slt b_sad q_bool q_str q_nil q_nilf u_not u_neg u_xor f_ret f_nor v_r v_c v_g v_reg v_ob v_set v_put v_so v_sn v_pn v_pc g_nil d_nil p_nil m_mv m_fr z_nil z_cons z_an z_ac g_cons d_cons p_cons y_mov y_bin y_eq y_un y_conv y_len y_slen y_idx y_aix y_fad y_load y_store y_boxp y_boxo y_boxm y_alloc y_alloca y_allocm y_nilarr y_build y_bslp y_bslo y_slc y_sslc y_slc3 y_sidx y_mkfn y_ext y_pick y_callf y_callb y_appd y_clear y_mxn y_field y_nilc y_make y_makeb y_buildm y_boxg y_mkif y_tass y_eqs y_callo y_mkmv y_callx y_vidx nb_if
attribute [local go_sem] nbd VL_mk VL2_mk If_t If_f If_not If_and If_or If_dt If_df If_et If_ef If_ne Ck_t Ck_h Opt_s ld_a ld_c lm_a lm_c renL ren keepR renA idxM invL getObs mapOb renOb allNone putAll fzR fzO fz fzL fzOb fzB frzOk upFrom mapR resOne resA cellsOf oneA oneAL isP isPL okSt kRows kParts fillA setAt bor bor0 bor1 bor2 borC borI key0 key1 key2 keysA fillM cellsM cellM unif ptrA ifOk kPartsM getObsM allNoneM zipU scal0 scalar eqC evNil evNilF memK keyX hideM xbor scal1 scalX scalOb bndA mkMag showM lendV hideV hideR hideOb hideL hideO showL backO noneO mapA List.map_cons List.map_nil List.cons_append List.nil_append List.append_nil List.drop_zero List.drop_succ_cons List.drop_nil List.take_succ_cons List.take_zero List.take_nil List.length_cons List.length_nil List.length_map List.getElem?_map Option.map_some Option.map_none Int.toNat_natCast Int.toNat_zero Int.toNat_one Int.natCast_nonneg List.flatMap_cons List.flatMap_nil List.all_cons List.all_nil List.any_cons List.any_nil Bool.or_false Bool.false_or Bool.or_true Bool.true_or Bool.and_true Bool.true_and Bool.and_false Bool.false_and Bool.not_true Bool.not_false beq_self_eq_true nb_self all_nil List.forall_mem_cons tk_map tk_app bs_self bs_dec bq_t bq_f Bool.not_not decide_true decide_false Bool.not_not and_self and_true true_and eq_self List.reverse_cons List.reverse_nil List.getElem?_cons_zero List.getElem?_cons_succ cond_true cond_false List.set_cons_zero List.set_cons_succ Nat.zero_add Nat.add_zero if_true if_false ite_true ite_false implies_true wrap64 wrap8
open Go.Bits
set_option linter.unusedVariables false
set_option linter.unusedSimpArgs false
set_option maxRecDepth 10000
def encP2 (p : Nat × Nat) : List AV := [.int .i64 (p.1 : Int), .int .i64 (p.2 : Int)]
def pushV (ver len : Nat) (xs : List (List AV)) : Nat := if len = xs.length then ver + 1 else ver
def pushX (len : Nat) (xs : List (List AV)) (y : List AV) : List (List AV) := if len = xs.length then xs ++ [y] else xs.take len ++ [y] ++ xs.drop (len + 1)
theorem push_take {len : Nat} {xs : List (List AV)} {y : List AV} (h : len ≤ xs.length) : (pushX len xs y).take (len + 1) = xs.take len ++ [y] := by
  unfold pushX
  split
  · rename_i e
    subst e
    rw [List.take_of_length_le (by simp), List.take_of_length_le (Nat.le_refl _)]
  · have h1 : (xs.take len).length = len := by simp; omega
    rw [List.take_append_of_le_length (by simp [h1]), List.take_of_length_le (by simp [h1])]
theorem push_len {len : Nat} {xs : List (List AV)} {y : List AV} (h : len ≤ xs.length) : len + 1 ≤ (pushX len xs y).length := by
  unfold pushX
  split
  · rename_i e
    simp; omega
  · simp; omega
theorem C57 {n : Nat} {bs : List Bool} (hbs : bs.length = n) (hn : n < 1000000) (i : Int) (ver len : Nat) (xs : List (List AV)) (hle : len ≤ xs.length) (hlen : len < 2000000) (hx : ∀ c ∈ xs, c.length = 2) :
    Ctr Try.prog 57 [.int .i64 i, .ref 0 0, .ref 3 0] [.box [.ref 1 0], .box [.int .i64 (n : Int), .hs 2 0 0 (nw n)], .arr 0 1 (encWs bs), .box [.hs 4 ver 0 len], .arr ver 2 xs]
      (retO [] (bif addR bs i then [.box [.ref 1 0], .box [.int .i64 (n : Int), .hs 2 0 0 (nw n)], .arr 0 1 (encWs (addS bs i)), .box [.hs 4 (pushV ver len xs) 0 (len + 1)], .arr (pushV ver len xs) 2 (pushX len xs [.int .i64 i, .int .i64 0])]
        else [.box [.ref 1 0], .box [.int .i64 (n : Int), .hs 2 0 0 (nw n)], .arr 0 1 (encWs (addS bs i)), .box [.hs 4 ver 0 len], .arr ver 2 xs])) := by
  apply ctr_b A57_ok rfl (Nat.le_of_ble_eq_true rfl)
  unfold A57
  simp only [initL, Nat.reduceAdd]
  simp (config := {maxSteps := 2000000, implicitDefEqProofs := false}) (disch := omega) only [↓reduceIte, go_sem, Int.reduceToNat, Nat.reduceAdd, Nat.reduceLeDiff, Nat.reduceEqDiff, Nat.reduceSub, Nat.reduceMul, reduceCtorEq]
  refine callD (Add' hbs i (by omega)) ?_
  simp (config := {maxSteps := 2000000, implicitDefEqProofs := false}) (disch := omega) only [↓reduceIte, go_sem, Int.reduceToNat, Nat.reduceAdd, Nat.reduceLeDiff, Nat.reduceEqDiff, Nat.reduceSub, Nat.reduceMul, reduceCtorEq]
  refine ifL (fun e => ?_) (fun e => ?_)
  · have hc1 : ((len + 1 : Nat) : Int) * ((16 : Nat) : Int) ≤ 70368744177664 := by omega
    simp (config := {maxSteps := 2000000, implicitDefEqProofs := false}) (disch := omega) only [↓reduceIte, go_sem, Int.reduceToNat, Nat.reduceAdd, Nat.reduceLeDiff, Nat.reduceEqDiff, Nat.reduceSub, Nat.reduceMul, reduceCtorEq, e, hc1]
    refine ifD (fun c => ?_) (fun c => ?_)
    · simp (config := {maxSteps := 2000000, implicitDefEqProofs := false}) (disch := omega) only [↓reduceIte, go_sem, Int.reduceToNat, Nat.reduceAdd, Nat.reduceLeDiff, Nat.reduceEqDiff, Nat.reduceSub, Nat.reduceMul, reduceCtorEq, e, hc1]
      simp [pushV, pushX, c, retO]
    · have hc2 : len + 1 ≤ xs.length := by omega
      simp (config := {maxSteps := 2000000, implicitDefEqProofs := false}) (disch := omega) only [↓reduceIte, go_sem, Int.reduceToNat, Nat.reduceAdd, Nat.reduceLeDiff, Nat.reduceEqDiff, Nat.reduceSub, Nat.reduceMul, reduceCtorEq, e, hc2]
      simp [pushV, pushX, c, retO]
  · simp (config := {maxSteps := 2000000, implicitDefEqProofs := false}) (disch := omega) only [↓reduceIte, go_sem, Int.reduceToNat, Nat.reduceAdd, Nat.reduceLeDiff, Nat.reduceEqDiff, Nat.reduceSub, Nat.reduceMul, reduceCtorEq, e]
    simp [retO]
end Go.Proofs.Yticjemfgbfphdaa.X
/- Depth first: plain. -/
namespace Go.AM
open Go
set_option linter.unusedVariables false
structure Dst where
  bs : List Bool
  st : List (Nat × Nat)
  out : List Nat
def enterP (x : Dst) (v : Nat) : Dst := if v < x.bs.length ∧ x.bs.getD v false = false then ⟨x.bs.set v true, x.st ++ [(v, 0)], x.out⟩ else x
def stepP (s : List (List Nat)) (x : Dst) : Dst := match x.st.getLast? with
  | none => x
  | some (i, k) => if k = (s.getD i []).length then ⟨x.bs, x.st.dropLast, x.out ++ [i]⟩ else enterP ⟨x.bs, x.st.dropLast ++ [(i, k + 1)], x.out⟩ ((s.getD i []).getD k 0)
def runP (s : List (List Nat)) : Nat → Dst → Dst
  | 0, x => x
  | m + 1, x => match x.st with
    | [] => x
    | _ :: _ => runP s m (stepP s x)
def unsP (s : List (List Nat)) : Nat → List Bool → Nat
  | _, [] => 0
  | i, b :: bs => (if b = true then 0 else (s.getD i []).length + 2) + unsP s (i + 1) bs
def stkP (s : List (List Nat)) (st : List (Nat × Nat)) : Nat := (st.map fun p => (s.getD p.1 []).length - p.2 + 1).sum
def msrP (s : List (List Nat)) (x : Dst) : Nat := unsP s 0 x.bs + stkP s x.st
def WfP (s : List (List Nat)) (x : Dst) : Prop := x.bs.length = s.length ∧ ∀ p ∈ x.st, p.1 < s.length ∧ p.2 ≤ (s.getD p.1 []).length
theorem unsP_set {s : List (List Nat)} : ∀ {bs : List Bool} {i v : Nat}, v < bs.length → bs.getD v false = false → unsP s i (bs.set v true) + ((s.getD (i + v) []).length + 2) = unsP s i bs
  | [], i, v, h, _ => by simp at h
  | b :: bs, i, 0, h, h2 => by
    simp at h2
    subst h2
    simp [unsP]
    omega
  | b :: bs, i, v + 1, h, h2 => by
    have := unsP_set (s := s) (bs := bs) (i := i + 1) (v := v) (by simpa using h) (by simpa using h2)
    simp only [List.set_cons_succ, unsP]
    rw [show i + (v + 1) = i + 1 + v by omega]
    omega
theorem stkP_snoc {s : List (List Nat)} {st : List (Nat × Nat)} {p : Nat × Nat} : stkP s (st ++ [p]) = stkP s st + ((s.getD p.1 []).length - p.2 + 1) := by
  simp [stkP]
theorem enterP_msr {s : List (List Nat)} {x : Dst} {v : Nat} (hw : WfP s x) : msrP s (enterP x v) ≤ msrP s x ∧ WfP s (enterP x v) := by
  unfold enterP
  split
  · rename_i h
    have h1 := unsP_set (s := s) (i := 0) h.1 h.2
    rw [Nat.zero_add] at h1
    refine ⟨?_, by simpa using hw.1, fun p hp => ?_⟩
    · simp only [msrP, stkP_snoc]
      omega
    · rcases List.mem_append.1 hp with hp | hp
      · exact hw.2 p hp
      · rw [List.mem_singleton.1 hp]
        exact ⟨by rw [← hw.1]; exact h.1, Nat.zero_le _⟩
  · exact ⟨Nat.le_refl _, hw⟩
theorem last_eq {α : Type} {l : List α} {x : α} (h : l.getLast? = some x) : l = l.dropLast ++ [x] := by
  obtain ⟨ys, rfl⟩ := List.getLast?_eq_some_iff.1 h
  simp
theorem stepP_msr {s : List (List Nat)} {x : Dst} (hw : WfP s x) (hs : x.st ≠ []) : msrP s (stepP s x) < msrP s x ∧ WfP s (stepP s x) := by
  unfold stepP
  cases hl : x.st.getLast? with
  | none => exact absurd (List.getLast?_eq_none_iff.1 hl) hs
  | some p =>
    obtain ⟨i, k⟩ := p
    have he := last_eq hl
    have hmem : (i, k) ∈ x.st := by rw [he]; simp
    have hik := hw.2 _ hmem
    have hsub : ∀ p ∈ x.st.dropLast, p ∈ x.st := fun p hp => by rw [he]; exact List.mem_append_left _ hp
    have hstk : stkP s x.st = stkP s x.st.dropLast + ((s.getD i []).length - k + 1) := by
      have := stkP_snoc (s := s) (st := x.st.dropLast) (p := (i, k))
      rwa [← he] at this
    simp only at hik
    simp only
    split
    · rename_i hk
      refine ⟨?_, hw.1, fun p hp => hw.2 p (hsub p hp)⟩
      simp only [msrP]
      omega
    · rename_i hk
      have hw2 : WfP s ⟨x.bs, x.st.dropLast ++ [(i, k + 1)], x.out⟩ := ⟨hw.1, fun p hp => by
        rcases List.mem_append.1 hp with hp | hp
        · exact hw.2 p (hsub p hp)
        · rw [List.mem_singleton.1 hp]
          exact ⟨hik.1, by simp only; omega⟩⟩
      obtain ⟨h1, h2⟩ := enterP_msr (v := (s.getD i []).getD k 0) hw2
      refine ⟨?_, h2⟩
      simp only [msrP, stkP_snoc] at h1 ⊢
      omega
theorem runP_fuel {s : List (List Nat)} : ∀ {m : Nat} {x : Dst}, WfP s x → msrP s x ≤ m → runP s m x = runP s (msrP s x) x
  | 0, x, hw, h => by rw [show msrP s x = 0 by omega]
  | m + 1, x, hw, h => by
    cases hx : x.st with
    | nil =>
      have e : ∀ n, runP s n x = x := fun n => by
        cases n with
        | zero => rfl
        | succ n => simp only [runP, hx]
      rw [e, e]
    | cons p r =>
      have hne : x.st ≠ [] := by rw [hx]; simp
      obtain ⟨h1, h2⟩ := stepP_msr hw hne
      obtain ⟨q, hq⟩ : ∃ q, msrP s x = q + 1 := ⟨msrP s x - 1, by omega⟩
      rw [hq]
      simp only [runP, hx]
      rw [runP_fuel (m := m) h2 (by omega), runP_fuel (m := q) h2 (by omega)]
termination_by m => m
theorem runP_step {s : List (List Nat)} {x : Dst} (hw : WfP s x) (hs : x.st ≠ []) : runP s (msrP s x) x = runP s (msrP s (stepP s x)) (stepP s x) := by
  obtain ⟨h1, h2⟩ := stepP_msr hw hs
  obtain ⟨q, hq⟩ : ∃ q, msrP s x = q + 1 := ⟨msrP s x - 1, by omega⟩
  rw [hq]
  cases hx : x.st with
  | nil => exact absurd hx hs
  | cons p r =>
    simp only [runP, hx]
    rw [runP_fuel (m := q) h2 (by omega)]
theorem runP_end {s : List (List Nat)} {x : Dst} (hs : x.st = []) (m : Nat) : runP s m x = x := by
  cases m with
  | zero => rfl
  | succ n => simp only [runP, hs]
def initP (s : List (List Nat)) : Dst := enterP ⟨List.replicate s.length false, [], []⟩ 0
def postP (s : List (List Nat)) : List Nat := (runP s (msrP s (initP s)) (initP s)).out
theorem initP_wf (s : List (List Nat)) : WfP s (initP s) := (enterP_msr (s := s) (x := ⟨List.replicate s.length false, [], []⟩) (v := 0) ⟨by simp, fun p hp => by cases hp⟩).2
/-- What is so while one goes. -/
structure InvP (s : List (List Nat)) (x : Dst) : Prop where
  wf : WfP s x
  nd : (x.out ++ (x.st.map (·.1)).reverse).Nodup
  seen : ∀ v, x.bs.getD v false = true ↔ v ∈ x.out ++ (x.st.map (·.1)).reverse
  rch : ∀ v, x.bs.getD v false = true → Rch s (-1) v
  done : ∀ v ∈ x.out, ∀ w ∈ s.getD v [], x.bs.getD w false = true
  part : ∀ p ∈ x.st, ∀ k w, k < p.2 → (s.getD p.1 [])[k]? = some w → x.bs.getD w false = true
  par : ∀ v ∈ x.out ++ (x.st.map (·.1)).reverse, v ≠ 0 → ∃ p, v ∈ s.getD p [] ∧ List.Sublist [v, p] (x.out ++ (x.st.map (·.1)).reverse)
  root : (x.out ++ (x.st.map (·.1)).reverse).getLast? = some 0
theorem InvP.init {s : List (List Nat)} (h : 0 < s.length) : InvP s (initP s) := by
  have e : initP s = ⟨(List.replicate s.length false).set 0 true, [(0, 0)], []⟩ := by
    unfold initP enterP
    rw [if_pos ⟨by simpa using h, by simp [List.getD_eq_getElem?_getD, h]⟩]
    rfl
  have hst := snd_start (wo := -1) h (by decide)
  have hw := initP_wf s
  rw [e] at hw ⊢
  refine ⟨hw, by simp, fun v => ?_, hst.2.2, fun v hv => (by cases hv), fun p hp k w hk => ?_, fun v hv h0 => ?_, rfl⟩
  · simp only
    rw [getDb_set _ _ _ (by simpa using h)]
    by_cases hv : v = 0
    · subst hv; simp
    · rw [if_neg hv]
      simp [List.getD_eq_getElem?_getD, List.getElem?_replicate, hv]
      split <;> simp
  · simp at hp
    subst hp
    simp at hk
  · simp at hv
    exact absurd hv h0
theorem InvP.step {s : List (List Nat)} {x : Dst} (hwf : WFs s) (h : InvP s x) (hs : x.st ≠ []) : InvP s (stepP s x) := by
  have hW := (stepP_msr h.wf hs).2
  obtain ⟨bs, st, out⟩ := x
  cases hl : st.getLast? with
  | none => exact absurd (List.getLast?_eq_none_iff.1 hl) hs
  | some p =>
    obtain ⟨i, k⟩ := p
    have he := last_eq hl
    generalize st.dropLast = d at he
    subst he
    have hseq : ((d ++ [(i, k)]).map (·.1)).reverse = i :: (d.map (·.1)).reverse := by simp
    have hnd := h.nd
    have hsn := h.seen
    have hpar := h.par
    have hroot := h.root
    simp only [hseq] at hnd hsn hpar hroot
    have hik := h.wf.2 (i, k) (by simp)
    have hpart := h.part (i, k) (by simp)
    simp only at hik hpart
    unfold stepP at hW ⊢
    simp only [List.getLast?_append, List.getLast?_singleton, Option.some_or, List.dropLast_concat] at hW ⊢
    by_cases hk : k = (s.getD i []).length
    · rw [if_pos hk] at hW ⊢
      have e2 : out ++ [i] ++ (d.map (·.1)).reverse = out ++ i :: (d.map (·.1)).reverse := by simp
      refine ⟨hW, ?_, ?_, h.rch, fun v hv w hwm => ?_, fun p hp => h.part p (List.mem_append_left _ hp), ?_, ?_⟩
      · simp only [e2]; exact hnd
      · simp only [e2]; exact hsn
      · rcases List.mem_append.1 hv with hv | hv
        · exact h.done v hv w hwm
        · rw [List.mem_singleton] at hv
          subst hv
          obtain ⟨q, hq, rfl⟩ := List.getElem_of_mem hwm
          exact hpart q _ (by omega) (List.getElem?_eq_getElem hq)
      · simp only [e2]; exact hpar
      · simp only [e2]; exact hroot
    · rw [if_neg hk] at hW ⊢
      obtain ⟨w, hwk⟩ : ∃ w, (s.getD i [])[k]? = some w := ⟨_, List.getElem?_eq_getElem (by omega)⟩
      have hwd : (s.getD i []).getD k 0 = w := by rw [List.getD_eq_getElem?_getD, hwk]; rfl
      have hwm : w ∈ s.getD i [] := List.mem_of_getElem? hwk
      have hwl : w < bs.length := by rw [show bs.length = s.length from h.wf.1]; exact hwf i w hwm
      rw [hwd] at hW ⊢
      have hseq2 : ((d ++ [(i, k + 1)]).map (·.1)).reverse = i :: (d.map (·.1)).reverse := by simp
      have hi : bs.getD i false = true := (hsn i).2 (by simp)
      unfold enterP at hW ⊢
      simp only at hW ⊢
      by_cases hb : bs.getD w false = false
      · rw [if_pos ⟨hwl, hb⟩] at hW ⊢
        have hseq3 : ((d ++ [(i, k + 1)] ++ [(w, 0)]).map (fun (p : Nat × Nat) => p.1)).reverse = w :: i :: (d.map (·.1)).reverse := by simp
        have hnw : w ∉ out ++ i :: (d.map (·.1)).reverse := fun hm => by rw [(hsn w).2 hm] at hb; cases hb
        have hsub : List.Sublist (out ++ i :: (d.map (·.1)).reverse) (out ++ w :: i :: (d.map (·.1)).reverse) := (List.Sublist.refl out).append (List.sublist_cons_self _ _)
        have hmono : ∀ v, bs.getD v false = true → (bs.set w true).getD v false = true := fun v hv => by
          rw [getDb_set _ _ _ hwl]
          split
          · rfl
          · exact hv
        refine ⟨hW, ?_, fun v => ?_, fun v hv => ?_, fun v hv u hu => hmono u (h.done v hv u hu), fun p hp q u hq hu => ?_, fun v hv h0 => ?_, ?_⟩
        · simp only [hseq3]
          rw [List.nodup_append] at hnd ⊢
          simp only [List.mem_append, not_or] at hnw
          refine ⟨hnd.1, List.nodup_cons.2 ⟨hnw.2, hnd.2.1⟩, fun a ha b hb => ?_⟩
          rcases List.mem_cons.1 hb with rfl | hb
          · exact fun e => hnw.1 (e ▸ ha)
          · exact hnd.2.2 a ha b hb
        · simp only [hseq3]
          rw [getDb_set _ _ _ hwl]
          have := hsn v
          by_cases hvw : v = w
          · subst hvw; simp
          · rw [if_neg hvw, this]
            simp [hvw]
        · simp only at hv
          rw [getDb_set _ _ _ hwl] at hv
          split at hv
          · rename_i e
            rw [e]
            exact .step (h.rch i hi) hwm (by omega)
          · exact h.rch v hv
        · simp only at hp
          rcases List.mem_append.1 hp with hp | hp
          · rcases List.mem_append.1 hp with hp | hp
            · exact hmono u (h.part p (List.mem_append_left _ hp) q u hq hu)
            · rw [List.mem_singleton] at hp
              subst hp
              by_cases hqk : q = k
              · subst hqk
                rw [hwk] at hu
                cases hu
                rw [getDb_set _ _ _ hwl, if_pos rfl]
              · exact hmono u (hpart q u (by simp only at hq; omega) hu)
          · rw [List.mem_singleton] at hp
            subst hp
            simp at hq
        · simp only [hseq3] at hv ⊢
          by_cases hvw : v = w
          · subst hvw
            refine ⟨i, hwm, ?_⟩
            exact (List.nil_sublist out).append (List.Sublist.cons_cons _ (List.Sublist.cons_cons _ (List.nil_sublist _)))
          · have hv2 : v ∈ out ++ i :: (d.map (·.1)).reverse := by
              simp only [List.mem_append, List.mem_cons] at hv ⊢
              rcases hv with hv | hv | hv
              · exact .inl hv
              · exact absurd hv hvw
              · exact .inr hv
            obtain ⟨p, hp1, hp2⟩ := hpar v hv2 h0
            exact ⟨p, hp1, hp2.trans hsub⟩
        · simp only [hseq3]
          rw [List.getLast?_append] at hroot ⊢
          simpa using hroot
      · have hb1 : bs.getD w false = true := by simpa using hb
        rw [if_neg (fun hh => hb hh.2)] at hW ⊢
        refine ⟨hW, by simp only [hseq2]; exact hnd, by simp only [hseq2]; exact hsn, h.rch, h.done, fun p hp q u hq hu => ?_, by simp only [hseq2]; exact hpar, by simp only [hseq2]; exact hroot⟩
        simp only at hp
        rcases List.mem_append.1 hp with hp | hp
        · exact h.part p (List.mem_append_left _ hp) q u hq hu
        · rw [List.mem_singleton] at hp
          subst hp
          by_cases hqk : q = k
          · subst hqk
            rw [hwk] at hu
            cases hu
            exact hb1
          · exact hpart q u (by simp only at hq; omega) hu
theorem InvP.run {s : List (List Nat)} (hwf : WFs s) : ∀ {m : Nat} {x : Dst}, InvP s x → msrP s x ≤ m → InvP s (runP s m x) ∧ (runP s m x).st = []
  | 0, x, h, hm => by
    refine ⟨h, ?_⟩
    cases hx : x.st with
    | nil => simp only [runP]; exact hx
    | cons p r =>
      have := (stepP_msr h.wf (by rw [hx]; simp)).1
      omega
  | m + 1, x, h, hm => by
    cases hx : x.st with
    | nil => rw [runP_end hx]; exact ⟨h, hx⟩
    | cons p r =>
      have hne : x.st ≠ [] := by rw [hx]; simp
      simp only [runP, hx]
      exact InvP.run hwf (h.step hwf hne) (by have := (stepP_msr h.wf hne).1; omega)
/-- An order of all that is reached: who leads to one stands somewhere ahead of it. -/
structure OrdOk (s : List (List Nat)) (l : List Nat) : Prop where
  nd : l.Nodup
  mem : ∀ v, v ∈ l ↔ Rch s (-1) v
  head : l.head? = some 0
  par : ∀ v ∈ l, v ≠ 0 → ∃ p, v ∈ s.getD p [] ∧ List.Sublist [p, v] l
theorem post_ok {s : List (List Nat)} (hwf : WFs s) (h : 0 < s.length) : OrdOk s (postP s).reverse := by
  obtain ⟨hi, he⟩ := InvP.run hwf (InvP.init h) (Nat.le_refl _)
  unfold postP
  generalize runP s (msrP s (initP s)) (initP s) = x at hi he
  obtain ⟨bs, st, out⟩ := x
  simp only at he
  subst he
  have hnd := hi.nd
  have hsn := hi.seen
  have hpar := hi.par
  have hroot := hi.root
  simp only [List.map_nil, List.reverse_nil, List.append_nil] at hnd hsn hpar hroot
  refine ⟨(List.reverse_perm out).nodup_iff.2 hnd, fun v => ?_, by rw [List.head?_reverse]; exact hroot, fun v hv h0 => ?_⟩
  · rw [List.mem_reverse, ← hsn]
    refine ⟨hi.rch v, fun hr => ?_⟩
    induction hr with
    | base _ _ => exact (hsn 0).2 (List.mem_of_getLast? hroot)
    | step _ hb _ ih => exact hi.done _ ((hsn _).1 ih) _ hb
  · obtain ⟨p, h1, h2⟩ := hpar v (List.mem_reverse.1 hv) h0
    exact ⟨p, h1, by simpa using h2.reverse⟩
end Go.AM
/- The graph's order. -/
namespace Go.Proofs.Yticjemfgbfphdaa.X
open Go Go.AM Go.Proofs
attribute [local go_sem ↓] w_skip w_lbl w_ops w_draw w_pre w_post w_alt w_seq w_cond w_block w_join w_loop w_exit w_ret w_scope w_rfunc l_nil l_cons th_n th_e th_r bk_n bk_r bk_e t_nil t_it t_call i_nil i_one i_grp s_nil s_cons c_call e_mv e_nil e_dyn e_nilb e_frz o_mov o_bin o_eq o_un o_conv o_len o_slen o_idx o_aix o_fad o_load o_store o_boxp o_boxo o_boxm o_alloc o_allocm o_alloca o_nilarr o_build o_bslp o_bslo o_slc o_sslc o_slc3 o_sidx o_mkfn o_mkmv o_vidx o_ext o_pick o_callf o_callb o_appd o_clear o_mxn o_field o_nilc o_make o_makeb o_buildm o_boxg o_mkif o_tass o_eqs o_callo o_callx k_int k_str k_bool k_grb k_grt k_some k_none k_arr k_lens k_lenf k_lenh k_lenb k_idxb k_idxs k_idxf k_idxh k_ld k_loadp k_loadr k_loade k_storer k_storee k_oin k_ois k_slcs k_slcf k_slch k_slc3s k_slc3f k_slc3h k_app2 k_apps k_appf k_apph k_cals k_cald k_cali k_cnb k_cna k_esn k_esc k_efn k_efc k_esh b_add b_sub b_mul b_quo b_rem b_and b_or b_xor b_andNot b_eql b_neq b_lss b_leq b_gtr b_geq b_shl b_shr b_seq b_sne b_slt b_sad q_bool q_str q_nil q_nilf u_not u_neg u_xor f_ret f_nor v_r v_c v_g v_reg v_ob v_set v_put v_so v_sn v_pn v_pc g_nil d_nil p_nil m_mv m_fr z_nil z_cons z_an z_ac g_cons d_cons p_cons y_mov y_bin y_eq y_un y_conv y_len y_slen y_idx y_aix y_fad y_load y_store y_boxp y_boxo y_boxm y_alloc y_alloca y_allocm y_nilarr y_build y_bslp y_bslo y_slc y_sslc y_slc3 y_sidx y_mkfn y_ext y_pick y_callf y_callb y_appd y_clear y_mxn y_field y_nilc y_make y_makeb y_buildm y_boxg y_mkif y_tass y_eqs y_callo y_mkmv y_callx y_vidx nb_if
attribute [local go_sem] nbd VL_mk VL2_mk If_t If_f If_not If_and If_or If_dt If_df If_et If_ef If_ne Ck_t Ck_h Opt_s ld_a ld_c lm_a lm_c renL ren keepR renA idxM invL getObs mapOb renOb allNone putAll fzR fzO fz fzL fzOb fzB frzOk upFrom mapR resOne resA cellsOf oneA oneAL isP isPL okSt kRows kParts fillA setAt bor bor0 bor1 bor2 borC borI key0 key1 key2 keysA fillM cellsM cellM unif ptrA ifOk kPartsM getObsM allNoneM zipU scal0 scalar eqC evNil evNilF memK keyX hideM xbor scal1 scalX scalOb bndA mkMag showM lendV hideV hideR hideOb hideL hideO showL backO noneO mapA List.map_cons List.map_nil List.cons_append List.nil_append List.append_nil List.drop_zero List.drop_succ_cons List.drop_nil List.take_succ_cons List.take_zero List.take_nil List.length_cons List.length_nil List.length_map List.getElem?_map Option.map_some Option.map_none Int.toNat_natCast Int.toNat_zero Int.toNat_one Int.natCast_nonneg List.flatMap_cons List.flatMap_nil List.all_cons List.all_nil List.any_cons List.any_nil Bool.or_false Bool.false_or Bool.or_true Bool.true_or Bool.and_true Bool.true_and Bool.and_false Bool.false_and Bool.not_true Bool.not_false beq_self_eq_true nb_self all_nil List.forall_mem_cons tk_map tk_app bs_self bs_dec bq_t bq_f Bool.not_not decide_true decide_false Bool.not_not and_self and_true true_and eq_self List.reverse_cons List.reverse_nil List.getElem?_cons_zero List.getElem?_cons_succ cond_true cond_false List.set_cons_zero List.set_cons_succ Nat.zero_add Nat.add_zero if_true if_false ite_true ite_false implies_true wrap64 wrap8
open Go.Bits
set_option linter.unusedVariables false
set_option linter.unusedSimpArgs false
set_option maxRecDepth 10000
theorem addR_nat {bs : List Bool} {v : Nat} : addR bs (v : Int) = true ↔ v < bs.length ∧ bs.getD v false = false := by
  unfold addR inB hasB
  simp
theorem addS_yes {bs : List Bool} {v : Nat} (h : addR bs (v : Int) = true) : addS bs (v : Int) = bs.set v true := by
  have := addR_nat.1 h
  unfold addS inB
  rw [if_pos (decide_eq_true ⟨by omega, by omega⟩)]
  rfl
theorem addS_no {bs : List Bool} {v : Nat} (h : addR bs (v : Int) = false) : addS bs (v : Int) = bs := by
  unfold addS inB
  split
  · rename_i e
    have e := of_decide_eq_true e
    have hb : bs.getD v false = true := by
      cases hx : bs.getD v false with
      | true => rfl
      | false => rw [addR_nat.2 ⟨by omega, hx⟩] at h; cases h
    exact set_same_b hb
  · rfl
theorem getD0 {l : List Nat} {k : Nat} (h : k < l.length) : l[k]? = some (l.getD k 0) := by
  rw [List.getElem?_eq_getElem h]
  simp [List.getD_eq_getElem?_getD, h]
theorem getD_set2 {l : List Nat} {i m x : Nat} (h : i < l.length) : (l.set i x).getD m 0 = if m = i then x else l.getD m 0 := by
  simp only [List.getD_eq_getElem?_getD]
  by_cases e : m = i
  · subst e; rw [List.getElem?_set_self h, if_pos rfl]; rfl
  · rw [List.getElem?_set_ne (Ne.symm e), if_neg e]
theorem getD_ext {a b : List Nat} (hl : a.length = b.length) (h : ∀ m, m < a.length → a.getD m 0 = b.getD m 0) : a = b := by
  apply List.ext_getElem hl
  intro m h1 h2
  have := h m h1
  simpa [List.getD_eq_getElem?_getD, h1, h2] using this
theorem C47 (ver : Nat) (l : List Nat) (hl : l.length < 1000000) : Ctr Try.prog 47 [.hs 0 ver 0 l.length] [.arr ver 1 (l.map encK)] (retO [] [.arr ver 1 (l.reverse.map encK)]) := by
  apply ctr_b A47_ok rfl (Nat.le_of_ble_eq_true rfl)
  unfold A47
  simp only [initL, Nat.reduceAdd]
  simp (config := {maxSteps := 2000000, implicitDefEqProofs := false}) (disch := omega) only [↓reduceIte, go_sem, Int.reduceToNat, Nat.reduceAdd, Nat.reduceLeDiff, Nat.reduceEqDiff, Nat.reduceSub, Nat.reduceMul, reduceCtorEq]
  refine loopL (σ := Nat × List Nat) (fun p => ⟨[(0, .hs 0 ver 0 l.length), (2, .int .i64 (p.1 : Int)), (3, .int .i64 ((l.length : Int) - 1 - (p.1 : Int)))], [(0, .arr ver 1 (p.2.map encK))]⟩)
    (fun p => p.2.length = l.length ∧ 2 * p.1 ≤ l.length + 1 ∧ ∀ m, m < l.length → p.2.getD m 0 = if m < p.1 ∨ l.length < m + p.1 + 1 then l.getD (l.length - 1 - m) 0 else l.getD m 0) (fun p => l.length - p.1) (0, l) (by simp (config := {maxSteps := 2000000, implicitDefEqProofs := false}) (disch := omega) only [↓reduceIte, go_sem, Int.reduceToNat, Nat.reduceAdd, Nat.reduceLeDiff, Nat.reduceEqDiff, Nat.reduceSub, Nat.reduceMul, reduceCtorEq]; simp) ⟨rfl, by omega, fun m hm => by rw [if_neg (by omega)]⟩ ?_
  rintro ⟨i, cur⟩ ⟨h1, h2, h3⟩
  simp only at h1 h2 h3
  simp (config := {maxSteps := 2000000, implicitDefEqProofs := false}) (disch := omega) only [↓reduceIte, go_sem, Int.reduceToNat, Nat.reduceAdd, Nat.reduceLeDiff, Nat.reduceEqDiff, Nat.reduceSub, Nat.reduceMul, reduceCtorEq]
  refine ifD (fun c => ?_) (fun c => ?_)
  · have hj : (l.length : Int) - 1 - (i : Int) = ((l.length - 1 - i : Nat) : Int) := by omega
    have hjl : l.length - 1 - i < l.length := by omega
    have hil : i < l.length := by omega
    have hi2 : i + 1 ≤ l.length - 1 - i := by omega
    have hq : (l.length - 1 - i) + i + 1 = l.length := by omega
    generalize hjj : l.length - 1 - i = j at hj hjl hi2 hq
    have hgi : cur[i]? = some (cur.getD i 0) := getD0 (by omega)
    have hgj : cur[j]? = some (cur.getD j 0) := getD0 (by omega)
    have hsj : ((cur.map encK).set i [AV.int IntKind.i64 (cur.getD j 0 : Int)])[j]? = some [AV.int IntKind.i64 (cur.getD j 0 : Int)] := by
      rw [List.getElem?_set_ne (by omega), List.getElem?_map, hgj]
      rfl
    simp (config := {maxSteps := 2000000, implicitDefEqProofs := false}) (disch := omega) only [↓reduceIte, go_sem, Int.reduceToNat, Nat.reduceAdd, Nat.reduceLeDiff, Nat.reduceEqDiff, Nat.reduceSub, Nat.reduceMul, reduceCtorEq, hj, hgi, hgj, encK, hsj]
    refine accL (by kernel_rfl) ?_
    simp (config := {maxSteps := 2000000, implicitDefEqProofs := false}) (disch := omega) only [↓reduceIte, go_sem, Int.reduceToNat, Nat.reduceAdd, Nat.reduceLeDiff, Nat.reduceEqDiff, Nat.reduceSub, Nat.reduceMul, reduceCtorEq, hj, hgi, hgj, encK, hsj]
    refine ⟨(i + 1, (cur.set i (cur.getD j 0)).set j (cur.getD i 0)), ?_, ⟨by simp [h1], by omega, fun m hm => ?_⟩, by simp only; omega⟩
    · have e1 : (j : Int) - 1 = (l.length : Int) - 1 - ((i + 1 : Nat) : Int) := by omega
      have e2 : (i : Int) + 1 = ((i + 1 : Nat) : Int) := by omega
      simp only [e1, e2, List.map_set]
      rfl
    · simp only
      rw [getD_set2 (by simp; omega), getD_set2 (by omega)]
      by_cases hmj : m = j
      · subst hmj
        rw [if_pos rfl, if_pos (by omega), h3 i (by omega), if_neg (by omega)]
        congr 1
        omega
      · rw [if_neg hmj]
        by_cases hmi : m = i
        · subst hmi
          rw [if_pos rfl, if_pos (by omega), h3 j (by omega), if_neg (by omega)]
          congr 1
          omega
        · rw [if_neg hmi, h3 m (by omega)]
          by_cases hh : m < i ∨ l.length < m + i + 1
          · rw [if_pos hh, if_pos (by omega)]
          · rw [if_neg hh, if_neg (by omega)]
  · simp (config := {maxSteps := 2000000, implicitDefEqProofs := false}) (disch := omega) only [↓reduceIte, go_sem, Int.reduceToNat, Nat.reduceAdd, Nat.reduceLeDiff, Nat.reduceEqDiff, Nat.reduceSub, Nat.reduceMul, reduceCtorEq]
    refine ⟨rfl, ?_⟩
    have : cur = l.reverse := by
      refine getD_ext (by simp [h1]) fun m hm => ?_
      rw [h3 m (by omega)]
      have hrev : l.reverse.getD m 0 = l.getD (l.length - 1 - m) 0 := by
        simp only [List.getD_eq_getElem?_getD]
        rw [List.getElem?_reverse (by omega)]
      rw [hrev]
      split
      · rfl
      · rename_i hh
        rw [show l.length - 1 - m = m by omega]
    rw [this]
theorem inv_len {s : List (List Nat)} {x : Dst} (hw : WFs s) (h : InvP s x) : x.out.length + x.st.length ≤ s.length := by
  have := nodup_le (n := s.length) h.nd fun v hv => (h.rch v ((h.seen v).2 hv)).lt hw
  simpa using this
set_option maxHeartbeats 1000000 in
theorem C46 (S P : List (List Nat)) (hs : GrOk S) (h0 : 0 < S.length) : Ctr Try.prog 46 [grP S P] [] (retO [.hs 0 (postP S).length 0 (postP S).length] [.arr (postP S).length 1 ((postP S).map encK)]) := by
  apply ctr_b A46_ok rfl (Nat.le_of_ble_eq_true rfl)
  unfold A46
  simp only [initL, Nat.reduceAdd, grP]
  have hl := hs.len
  have hinit : initP S = ⟨(noneB S.length).set 0 true, [(0, 0)], []⟩ := by
    unfold initP enterP noneB
    rw [if_pos ⟨by simpa using h0, by simp [List.getD_eq_getElem?_getD, h0]⟩]
    rfl
  have hI0 := InvP.init h0
  have e0 : addR (noneB S.length) ((0 : Nat) : Int) = true := addR_nat.2 ⟨by rw [noneB_len]; exact h0, noneB_get⟩
  have hc0 := C57 (bs := noneB S.length) noneB_len hl ((0 : Nat) : Int) 0 0 [] (Nat.zero_le _) (by omega) (fun c hc => by cases hc)
  rw [e0, addS_yes e0] at hc0
  simp only [cond_true, pushV, pushX, List.length_nil, if_true, List.nil_append, Nat.zero_add] at hc0
  rw [hinit] at hI0
  have hfin : ∀ x, initP S = x → runP S (msrP S x) x = runP S (msrP S (initP S)) (initP S) := fun x e => by rw [e]
  have hfin0 := hfin _ hinit
  have hpost : postP S = (runP S (msrP S (initP S)) (initP S)).out := rfl
  generalize runP S (msrP S (initP S)) (initP S) = fin at hfin0 hpost
  generalize (noneB S.length).set 0 true = bs0 at hI0 hc0 hfin0
  simp (config := {maxSteps := 2000000, implicitDefEqProofs := false}) (disch := omega) only [↓reduceIte, go_sem, Int.reduceToNat, Nat.reduceAdd, Nat.reduceLeDiff, Nat.reduceEqDiff, Nat.reduceSub, Nat.reduceMul, reduceCtorEq]
  refine callL (C29 S P) ?_
  simp (config := {maxSteps := 2000000, implicitDefEqProofs := false}) (disch := omega) only [↓reduceIte, go_sem, Int.reduceToNat, Nat.reduceAdd, Nat.reduceLeDiff, Nat.reduceEqDiff, Nat.reduceSub, Nat.reduceMul, reduceCtorEq]
  have hnew := New' (S.length : Int) (by omega)
  rw [Int.toNat_natCast] at hnew
  refine callD hnew ?_
  simp (config := {maxSteps := 2000000, implicitDefEqProofs := false}) (disch := omega) only [↓reduceIte, go_sem, Int.reduceToNat, Nat.reduceAdd, Nat.reduceLeDiff, Nat.reduceEqDiff, Nat.reduceSub, Nat.reduceMul, reduceCtorEq]
  refine callD hc0 ?_
  simp (config := {maxSteps := 2000000, implicitDefEqProofs := false}) (disch := omega) only [↓reduceIte, go_sem, Int.reduceToNat, Nat.reduceAdd, Nat.reduceLeDiff, Nat.reduceEqDiff, Nat.reduceSub, Nat.reduceMul, reduceCtorEq]
  refine loopL (σ := Dst × Nat × List (List AV)) (fun p => ⟨[(0, .rp [.sl (encRows S), .sl (encRows P)]), (4, .hs 4 p.1.out.length 0 p.1.out.length), (5, .ref 5 0), (6, .fn 57 [.ref 3 0, .ref 5 0])],
      [(3, .box [.ref 60 0]), (4, .arr p.1.out.length 1 (p.1.out.map encK)), (5, .box [.hs 1005 p.2.1 0 p.1.st.length]), (60, .box [.int .i64 (S.length : Int), .hs 61 0 0 (nw S.length)]), (61, .arr 0 1 (encWs p.1.bs)), (1005, .arr p.2.1 2 p.2.2)]⟩)
    (fun p => InvP S p.1 ∧ runP S (msrP S p.1) p.1 = fin ∧ p.1.st.length ≤ p.2.2.length ∧ p.2.2.take p.1.st.length = p.1.st.map encP2 ∧ ∀ c ∈ p.2.2, c.length = 2) (fun p => msrP S p.1) (⟨bs0, [(0, 0)], []⟩, 1, [[.int .i64 0, .int .i64 0]]) (by simp (config := {maxSteps := 2000000, implicitDefEqProofs := false}) (disch := omega) only [↓reduceIte, go_sem, Int.reduceToNat, Nat.reduceAdd, Nat.reduceLeDiff, Nat.reduceEqDiff, Nat.reduceSub, Nat.reduceMul, reduceCtorEq]; rfl)
    ⟨hI0, hfin0, by simp, rfl, fun c hc => by rw [List.mem_singleton.1 hc]; rfl⟩ ?_
  rintro ⟨⟨bs, st, out⟩, ver, xs⟩ ⟨hI, hf, hle, htk, hx2⟩
  simp only at hI hf hle htk hx2
  have hnl := inv_len hs.wf hI
  simp only at hnl
  simp (config := {maxSteps := 2000000, implicitDefEqProofs := false}) (disch := omega) only [↓reduceIte, go_sem, Int.reduceToNat, Nat.reduceAdd, Nat.reduceLeDiff, Nat.reduceEqDiff, Nat.reduceSub, Nat.reduceMul, reduceCtorEq]
  refine ifD (fun c => ?_) (fun c => ?_)
  · have hne : st ≠ [] := fun e => by rw [e] at c; simp at c
    obtain ⟨d, i, k, hst⟩ : ∃ d i k, st = d ++ [(i, k)] := ⟨st.dropLast, (st.getLast hne).1, (st.getLast hne).2, by simp [List.dropLast_concat_getLast hne]⟩
    have hL : st.length = d.length + 1 := by rw [hst]; simp
    have hz : IntKind.i64.wrap ((st.length : Int) - 1) = (d.length : Int) := by rw [wrap64 (by omega) (by omega)]; omega
    have hdx : d.length < xs.length := by omega
    have hxi : xs[d.length]? = some [.int .i64 (i : Int), .int .i64 (k : Int)] := by
      have h1 : (xs.take st.length)[d.length]? = xs[d.length]? := List.getElem?_take_of_lt (by omega)
      rw [← h1, htk, hst]
      simp [encP2]
    have hdst : (d.length : Int) < (st.length : Int) := by omega
    have hik := hI.wf.2 (i, k) (by rw [hst]; simp)
    simp only at hik
    have hrow := row_get hik.1
    have hrl := hs.row i
    have hstep := runP_step hI.wf hne
    obtain ⟨hm, hwf'⟩ := stepP_msr hI.wf hne
    have hI' := hI.step hs.wf hne
    have hstp : stepP S ⟨bs, st, out⟩ = if k = (S.getD i []).length then ⟨bs, d, out ++ [i]⟩ else enterP ⟨bs, d ++ [(i, k + 1)], out⟩ ((S.getD i []).getD k 0) := by
      unfold stepP
      simp only [hst, List.getLast?_append, List.getLast?_singleton, Option.some_or, List.dropLast_concat]
    rw [hf] at hstep
    simp (config := {maxSteps := 2000000, implicitDefEqProofs := false}) (disch := omega) only [↓reduceIte, go_sem, Int.reduceToNat, Nat.reduceAdd, Nat.reduceLeDiff, Nat.reduceEqDiff, Nat.reduceSub, Nat.reduceMul, reduceCtorEq, hz, hxi]
    refine accL (by kernel_rfl) ?_
    simp (config := {maxSteps := 2000000, implicitDefEqProofs := false}) (disch := omega) only [↓reduceIte, go_sem, Int.reduceToNat, Nat.reduceAdd, Nat.reduceLeDiff, Nat.reduceEqDiff, Nat.reduceSub, Nat.reduceMul, reduceCtorEq, hz, hxi, hrow]
    refine ifE (fun c2 => ?_) (fun c2 => ?_)
    · rw [if_pos (by omega)] at hstp
      rw [hstp] at hstep hm hI'
      have hc1 : ((out.length + 1 : Nat) : Int) * ((8 : Nat) : Int) ≤ 70368744177664 := by omega
      simp (config := {maxSteps := 2000000, implicitDefEqProofs := false}) (disch := omega) only [↓reduceIte, go_sem, Int.reduceToNat, Nat.reduceAdd, Nat.reduceLeDiff, Nat.reduceEqDiff, Nat.reduceSub, Nat.reduceMul, reduceCtorEq, hz, hxi, hrow, hc1]
      refine ⟨(⟨bs, d, out ++ [i]⟩, ver, xs), by simp [encK], ⟨hI', hstep.symm, by simp only; omega, ?_, hx2⟩, hm⟩
      have := congrArg (List.take d.length) htk
      rw [List.take_take, show min d.length st.length = d.length by omega, hst] at this
      simpa using this
    · rw [if_neg (by omega)] at hstp
      rw [hstp] at hstep hm hI'
      have hwk : (S.getD i [])[k]? = some ((S.getD i []).getD k 0) := getD0 (by omega)
      generalize (S.getD i []).getD k 0 = w at hwk hstep hm hI'
      have htk2 : (xs.set d.length [.int .i64 (i : Int), .int .i64 ((k : Int) + 1)]).take st.length = (d ++ [(i, k + 1)]).map encP2 := by
        rw [List.take_set, htk, hst]
        simp [encP2]
      have hx3 : ∀ c ∈ xs.set d.length [.int .i64 (i : Int), .int .i64 ((k : Int) + 1)], c.length = 2 := fun c hc => by
        rcases List.mem_or_eq_of_mem_set hc with hc | rfl
        · exact hx2 c hc
        · rfl
      have hle2 : st.length ≤ (xs.set d.length [.int .i64 (i : Int), .int .i64 ((k : Int) + 1)]).length := by simpa using hle
      simp (config := {maxSteps := 2000000, implicitDefEqProofs := false}) (disch := omega) only [↓reduceIte, go_sem, Int.reduceToNat, Nat.reduceAdd, Nat.reduceLeDiff, Nat.reduceEqDiff, Nat.reduceSub, Nat.reduceMul, reduceCtorEq, hz, hxi, hrow]
      refine accL (by kernel_rfl) ?_
      simp (config := {maxSteps := 2000000, implicitDefEqProofs := false}) (disch := omega) only [↓reduceIte, go_sem, Int.reduceToNat, Nat.reduceAdd, Nat.reduceLeDiff, Nat.reduceEqDiff, Nat.reduceSub, Nat.reduceMul, reduceCtorEq, hz, hxi, hrow, hwk, encK]
      generalize xs.set d.length [.int .i64 (i : Int), .int .i64 ((k : Int) + 1)] = xs2 at htk2 hx3 hle2 ⊢
      have hcall := C57 (bs := bs) hI.wf.1 hl (w : Int) ver st.length xs2 hle2 (by omega) hx3
      by_cases e : addR bs (w : Int) = true
      · rw [e, addS_yes e] at hcall
        simp only [cond_true] at hcall
        refine callD hcall ?_
        simp (config := {maxSteps := 2000000, implicitDefEqProofs := false}) (disch := omega) only [↓reduceIte, go_sem, Int.reduceToNat, Nat.reduceAdd, Nat.reduceLeDiff, Nat.reduceEqDiff, Nat.reduceSub, Nat.reduceMul, reduceCtorEq]
        have h1 := addR_nat.1 e
        have hen : enterP ⟨bs, d ++ [(i, k + 1)], out⟩ w = ⟨bs.set w true, d ++ [(i, k + 1)] ++ [(w, 0)], out⟩ := by
          unfold enterP
          rw [if_pos h1]
        rw [hen] at hstep hm hI'
        refine ⟨(⟨bs.set w true, d ++ [(i, k + 1)] ++ [(w, 0)], out⟩, pushV ver st.length xs2, pushX st.length xs2 [.int .i64 (w : Int), .int .i64 0]), by simp [hL], ⟨hI', hstep.symm, ?_, ?_, ?_⟩, hm⟩
        · have := push_len (y := [.int .i64 (w : Int), .int .i64 0]) hle2
          simp [hL] at this ⊢
          omega
        · have := push_take (y := [.int .i64 (w : Int), .int .i64 0]) hle2
          rw [htk2] at this
          simp only [List.length_append, List.length_cons, List.length_nil]
          rw [show d.length + (0 + 1) + (0 + 1) = st.length + 1 by omega, this]
          simp [encP2]
        · intro c hc
          simp only [pushX] at hc
          split at hc
          · rcases List.mem_append.1 hc with hc | hc
            · exact hx3 c hc
            · rw [List.mem_singleton.1 hc]; rfl
          · rcases List.mem_append.1 hc with hc | hc
            · rcases List.mem_append.1 hc with hc | hc
              · exact hx3 c (List.mem_of_mem_take hc)
              · rw [List.mem_singleton.1 hc]; rfl
            · exact hx3 c (List.mem_of_mem_drop hc)
      · have e' : addR bs (w : Int) = false := by simpa using e
        rw [e', addS_no e'] at hcall
        simp only [cond_false] at hcall
        refine callD hcall ?_
        simp (config := {maxSteps := 2000000, implicitDefEqProofs := false}) (disch := omega) only [↓reduceIte, go_sem, Int.reduceToNat, Nat.reduceAdd, Nat.reduceLeDiff, Nat.reduceEqDiff, Nat.reduceSub, Nat.reduceMul, reduceCtorEq]
        have hen : enterP ⟨bs, d ++ [(i, k + 1)], out⟩ w = ⟨bs, d ++ [(i, k + 1)], out⟩ := by
          unfold enterP
          rw [if_neg (fun h => e (addR_nat.2 h))]
        rw [hen] at hstep hm hI'
        exact ⟨(⟨bs, d ++ [(i, k + 1)], out⟩, ver, xs2), by simp [hL], ⟨hI', hstep.symm, by simp; omega, by simp only [List.length_append, List.length_cons, List.length_nil]; rw [show d.length + (0 + 1) = st.length by omega]; exact htk2, hx3⟩, hm⟩
  · simp (config := {maxSteps := 2000000, implicitDefEqProofs := false}) (disch := omega) only [↓reduceIte, go_sem, Int.reduceToNat, Nat.reduceAdd, Nat.reduceLeDiff, Nat.reduceEqDiff, Nat.reduceSub, Nat.reduceMul, reduceCtorEq]
    have hs0 : st = [] := List.eq_nil_of_length_eq_zero (by omega)
    have hh := runP_end (s := S) (x := ⟨bs, st, out⟩) hs0 (msrP S ⟨bs, st, out⟩)
    rw [hf] at hh
    rw [hpost, hh]
    exact ⟨rfl, rfl⟩
end Go.Proofs.Yticjemfgbfphdaa.X
/- The graph's order; the nearest block over two. -/
namespace Go.Proofs.Yticjemfgbfphdaa.X
open Go Go.AM Go.Proofs
attribute [local go_sem ↓] w_skip w_lbl w_ops w_draw w_pre w_post w_alt w_seq w_cond w_block w_join w_loop w_exit w_ret w_scope w_rfunc l_nil l_cons th_n th_e th_r bk_n bk_r bk_e t_nil t_it t_call i_nil i_one i_grp s_nil s_cons c_call e_mv e_nil e_dyn e_nilb e_frz o_mov o_bin o_eq o_un o_conv o_len o_slen o_idx o_aix o_fad o_load o_store o_boxp o_boxo o_boxm o_alloc o_allocm o_alloca o_nilarr o_build o_bslp o_bslo o_slc o_sslc o_slc3 o_sidx o_mkfn o_mkmv o_vidx o_ext o_pick o_callf o_callb o_appd o_clear o_mxn o_field o_nilc o_make o_makeb o_buildm o_boxg o_mkif o_tass o_eqs o_callo o_callx k_int k_str k_bool k_grb k_grt k_some k_none k_arr k_lens k_lenf k_lenh k_lenb k_idxb k_idxs k_idxf k_idxh k_ld k_loadp k_loadr k_loade k_storer k_storee k_oin k_ois k_slcs k_slcf k_slch k_slc3s k_slc3f k_slc3h k_app2 k_apps k_appf k_apph k_cals k_cald k_cali k_cnb k_cna k_esn k_esc k_efn k_efc k_esh b_add b_sub b_mul b_quo b_rem b_and b_or b_xor b_andNot b_eql b_neq b_lss b_leq b_gtr b_geq b_shl b_shr b_seq b_sne b_slt b_sad q_bool q_str q_nil q_nilf u_not u_neg u_xor f_ret f_nor v_r v_c v_g v_reg v_ob v_set v_put v_so v_sn v_pn v_pc g_nil d_nil p_nil m_mv m_fr z_nil z_cons z_an z_ac g_cons d_cons p_cons y_mov y_bin y_eq y_un y_conv y_len y_slen y_idx y_aix y_fad y_load y_store y_boxp y_boxo y_boxm y_alloc y_alloca y_allocm y_nilarr y_build y_bslp y_bslo y_slc y_sslc y_slc3 y_sidx y_mkfn y_ext y_pick y_callf y_callb y_appd y_clear y_mxn y_field y_nilc y_make y_makeb y_buildm y_boxg y_mkif y_tass y_eqs y_callo y_mkmv y_callx y_vidx nb_if
attribute [local go_sem] nbd VL_mk VL2_mk If_t If_f If_not If_and If_or If_dt If_df If_et If_ef If_ne Ck_t Ck_h Opt_s ld_a ld_c lm_a lm_c renL ren keepR renA idxM invL getObs mapOb renOb allNone putAll fzR fzO fz fzL fzOb fzB frzOk upFrom mapR resOne resA cellsOf oneA oneAL isP isPL okSt kRows kParts fillA setAt bor bor0 bor1 bor2 borC borI key0 key1 key2 keysA fillM cellsM cellM unif ptrA ifOk kPartsM getObsM allNoneM zipU scal0 scalar eqC evNil evNilF memK keyX hideM xbor scal1 scalX scalOb bndA mkMag showM lendV hideV hideR hideOb hideL hideO showL backO noneO mapA List.map_cons List.map_nil List.cons_append List.nil_append List.append_nil List.drop_zero List.drop_succ_cons List.drop_nil List.take_succ_cons List.take_zero List.take_nil List.length_cons List.length_nil List.length_map List.getElem?_map Option.map_some Option.map_none Int.toNat_natCast Int.toNat_zero Int.toNat_one Int.natCast_nonneg List.flatMap_cons List.flatMap_nil List.all_cons List.all_nil List.any_cons List.any_nil Bool.or_false Bool.false_or Bool.or_true Bool.true_or Bool.and_true Bool.true_and Bool.and_false Bool.false_and Bool.not_true Bool.not_false beq_self_eq_true nb_self all_nil List.forall_mem_cons tk_map tk_app bs_self bs_dec bq_t bq_f Bool.not_not decide_true decide_false Bool.not_not and_self and_true true_and eq_self List.reverse_cons List.reverse_nil List.getElem?_cons_zero List.getElem?_cons_succ cond_true cond_false List.set_cons_zero List.set_cons_succ Nat.zero_add Nat.add_zero if_true if_false ite_true ite_false implies_true wrap64 wrap8
open Go.Bits
set_option linter.unusedVariables false
set_option linter.unusedSimpArgs false
set_option maxRecDepth 10000
def orderP (s : List (List Nat)) : List Nat := if s.length = 0 then [] else (postP s).reverse
theorem orderP_len {s : List (List Nat)} (hw : WFs s) : (orderP s).length ≤ s.length := by
  unfold orderP
  split
  · simp
  · rename_i h
    have := (post_ok hw (by omega)).nd
    exact nodup_le this fun v hv => ((post_ok hw (by omega)).mem v).1 hv |>.lt hw
theorem C30 (S P : List (List Nat)) (hs : GrOk S) : Ctr Try.prog 30 [grP S P] [] (ret [.sl ((orderP S).map encK)]) := by
  apply ctr_b A30_ok rfl (Nat.le_of_ble_eq_true rfl)
  unfold A30
  simp only [initL, Nat.reduceAdd]
  have hl := hs.len
  have hp : isP (grP S P) = true := rfl
  have hrn : ∀ m, ren m (grP S P) = grP S P := fun m => by simp only [grP, ren]
  have hol := orderP_len hs.wf
  simp (config := {maxSteps := 2000000, implicitDefEqProofs := false}) (disch := omega) only [↓reduceIte, go_sem, Int.reduceToNat, Nat.reduceAdd, Nat.reduceLeDiff, Nat.reduceEqDiff, Nat.reduceSub, Nat.reduceMul, reduceCtorEq, hp, hrn]
  refine callL (C29 S P) ?_
  simp (config := {maxSteps := 2000000, implicitDefEqProofs := false}) (disch := omega) only [↓reduceIte, go_sem, Int.reduceToNat, Nat.reduceAdd, Nat.reduceLeDiff, Nat.reduceEqDiff, Nat.reduceSub, Nat.reduceMul, reduceCtorEq, hp, hrn]
  refine ifE (fun e => ?_) (fun e => ?_)
  · simp (config := {maxSteps := 2000000, implicitDefEqProofs := false}) (disch := omega) only [↓reduceIte, go_sem, Int.reduceToNat, Nat.reduceAdd, Nat.reduceLeDiff, Nat.reduceEqDiff, Nat.reduceSub, Nat.reduceMul, reduceCtorEq]
    exact ⟨by rw [orderP, if_pos (by omega)]; rfl, rfl⟩
  · have h0 : 0 < S.length := by omega
    have ho : orderP S = (postP S).reverse := by rw [orderP, if_neg (by omega)]
    have hpl : (postP S).length < 1000000 := by
      have : (orderP S).length = (postP S).length := by rw [ho]; simp
      omega
    simp (config := {maxSteps := 2000000, implicitDefEqProofs := false}) (disch := omega) only [↓reduceIte, go_sem, Int.reduceToNat, Nat.reduceAdd, Nat.reduceLeDiff, Nat.reduceEqDiff, Nat.reduceSub, Nat.reduceMul, reduceCtorEq, hp, hrn]
    refine callD (C46 S P hs h0) ?_
    have hrev := C47 (postP S).length (postP S) hpl
    rw [← ho] at hrev
    generalize postP S = l at hpl hrev ho ⊢
    simp (config := {maxSteps := 2000000, implicitDefEqProofs := false}) (disch := omega) only [↓reduceIte, go_sem, Int.reduceToNat, Nat.reduceAdd, Nat.reduceLeDiff, Nat.reduceEqDiff, Nat.reduceSub, Nat.reduceMul, reduceCtorEq, hp, hrn]
    refine callD hrev ?_
    simp (config := {maxSteps := 2000000, implicitDefEqProofs := false}) (disch := omega) only [↓reduceIte, go_sem, Int.reduceToNat, Nat.reduceAdd, Nat.reduceLeDiff, Nat.reduceEqDiff, Nat.reduceSub, Nat.reduceMul, reduceCtorEq, hp, hrn]
    refine ⟨?_, rfl⟩
    have : (orderP S).length = l.length := by rw [ho]; simp
    try rw [List.take_of_length_le (by simp; omega)]
/-- The nearest one over two, by what is known so far. -/
def upT (id : List Int) (a : Nat) : Nat := (id.getD a 0).toNat
def placeT (od : List Int) (a : Nat) : Int := od.getD a (-1)
structure TrW (id od : List Int) : Prop where
  len : id.length = od.length
  small : id.length < 1000000
  up : ∀ a, a < id.length → 0 ≤ id.getD a 0 → 0 < placeT od a → 0 ≤ placeT od (upT id a) ∧ placeT od (upT id a) < placeT od a ∧ upT id a < id.length ∧ 0 ≤ id.getD (upT id a) 0
  inj : ∀ a b, a < id.length → b < id.length → 0 ≤ id.getD a 0 → 0 ≤ id.getD b 0 → placeT od a = placeT od b → a = b
  pos : ∀ a, a < id.length → 0 ≤ id.getD a 0 → 0 ≤ placeT od a
def meetT (id od : List Int) : Nat → Nat → Nat → Nat
  | 0, a, _ => a
  | f + 1, a, b => if a = b then a else if placeT od b < placeT od a then meetT id od f (upT id a) b else meetT id od f a (upT id b)
def msrT (od : List Int) (a b : Nat) : Nat := (placeT od a + placeT od b).toNat
theorem meetT_fuel {id od : List Int} (h : TrW id od) : ∀ {f a b : Nat}, a < id.length → b < id.length → 0 ≤ id.getD a 0 → 0 ≤ id.getD b 0 → msrT od a b ≤ f → meetT id od f a b = meetT id od (msrT od a b) a b
  | 0, a, b, _, _, _, _, hf => by rw [show msrT od a b = 0 by omega]
  | f + 1, a, b, ha, hb, va, vb, hf => by
    by_cases e : a = b
    · subst e
      have : ∀ f, meetT id od f a a = a := fun f => by
        cases f with
        | zero => rfl
        | succ f => simp [meetT]
      rw [this, this]
    · have pa := h.pos a ha va
      have pb := h.pos b hb vb
      have hne : placeT od a ≠ placeT od b := fun e2 => e (h.inj a b ha hb va vb e2)
      obtain ⟨q, hq⟩ : ∃ q, msrT od a b = q + 1 := ⟨msrT od a b - 1, by unfold msrT; omega⟩
      rw [hq]
      simp only [meetT, if_neg e]
      by_cases hlt : placeT od b < placeT od a
      · rw [if_pos hlt, if_pos hlt]
        obtain ⟨u1, u2, u3, u4⟩ := h.up a ha va (by omega)
        have hm : msrT od (upT id a) b < msrT od a b := by unfold msrT; omega
        rw [meetT_fuel h u3 hb u4 vb (by omega), meetT_fuel h (f := q) u3 hb u4 vb (by omega)]
      · rw [if_neg hlt, if_neg hlt]
        obtain ⟨u1, u2, u3, u4⟩ := h.up b hb vb (by omega)
        have hm : msrT od a (upT id b) < msrT od a b := by unfold msrT; omega
        rw [meetT_fuel h ha u3 va u4 (by omega), meetT_fuel h (f := q) ha u3 va u4 (by omega)]
def meetV (id od : List Int) (a b : Nat) : Nat := meetT id od (msrT od a b) a b
theorem meetV_eq {id od : List Int} (a : Nat) : meetV id od a a = a := by
  unfold meetV
  cases msrT od a a with
  | zero => rfl
  | succ f => simp [meetT]
theorem meetV_l {id od : List Int} (h : TrW id od) {a b : Nat} (ha : a < id.length) (hb : b < id.length) (va : 0 ≤ id.getD a 0) (vb : 0 ≤ id.getD b 0) (hlt : placeT od b < placeT od a) : meetV id od a b = meetV id od (upT id a) b := by
  have pb := h.pos b hb vb
  obtain ⟨u1, u2, u3, u4⟩ := h.up a ha va (by omega)
  have hm : msrT od (upT id a) b < msrT od a b := by unfold msrT; omega
  unfold meetV
  obtain ⟨q, hq⟩ : ∃ q, msrT od a b = q + 1 := ⟨msrT od a b - 1, by omega⟩
  rw [hq]
  have e : a ≠ b := fun e => by subst e; omega
  simp only [meetT, if_neg e, if_pos hlt]
  rw [meetT_fuel h u3 hb u4 vb (by omega)]
theorem meetV_r {id od : List Int} (h : TrW id od) {a b : Nat} (ha : a < id.length) (hb : b < id.length) (va : 0 ≤ id.getD a 0) (vb : 0 ≤ id.getD b 0) (hlt : placeT od a < placeT od b) : meetV id od a b = meetV id od a (upT id b) := by
  have pa := h.pos a ha va
  obtain ⟨u1, u2, u3, u4⟩ := h.up b hb vb (by omega)
  have hm : msrT od a (upT id b) < msrT od a b := by unfold msrT; omega
  unfold meetV
  obtain ⟨q, hq⟩ : ∃ q, msrT od a b = q + 1 := ⟨msrT od a b - 1, by omega⟩
  rw [hq]
  have e : a ≠ b := fun e => by subst e; omega
  simp only [meetT, if_neg e, if_neg (show ¬ placeT od b < placeT od a by omega)]
  rw [meetT_fuel h ha u3 va u4 (by omega)]
end Go.Proofs.Yticjemfgbfphdaa.X
/- dom: the nearest one over two. -/
namespace Go.Proofs.Yticjemfgbfphdaa.X
open Go Go.AM Go.Proofs
attribute [local go_sem ↓] w_skip w_lbl w_ops w_draw w_pre w_post w_alt w_seq w_cond w_block w_join w_loop w_exit w_ret w_scope w_rfunc l_nil l_cons th_n th_e th_r bk_n bk_r bk_e t_nil t_it t_call i_nil i_one i_grp s_nil s_cons c_call e_mv e_nil e_dyn e_nilb e_frz o_mov o_bin o_eq o_un o_conv o_len o_slen o_idx o_aix o_fad o_load o_store o_boxp o_boxo o_boxm o_alloc o_allocm o_alloca o_nilarr o_build o_bslp o_bslo o_slc o_sslc o_slc3 o_sidx o_mkfn o_mkmv o_vidx o_ext o_pick o_callf o_callb o_appd o_clear o_mxn o_field o_nilc o_make o_makeb o_buildm o_boxg o_mkif o_tass o_eqs o_callo o_callx k_int k_str k_bool k_grb k_grt k_some k_none k_arr k_lens k_lenf k_lenh k_lenb k_idxb k_idxs k_idxf k_idxh k_ld k_loadp k_loadr k_loade k_storer k_storee k_oin k_ois k_slcs k_slcf k_slch k_slc3s k_slc3f k_slc3h k_app2 k_apps k_appf k_apph k_cals k_cald k_cali k_cnb k_cna k_esn k_esc k_efn k_efc k_esh b_add b_sub b_mul b_quo b_rem b_and b_or b_xor b_andNot b_eql b_neq b_lss b_leq b_gtr b_geq b_shl b_shr b_seq b_sne b_slt b_sad q_bool q_str q_nil q_nilf u_not u_neg u_xor f_ret f_nor v_r v_c v_g v_reg v_ob v_set v_put v_so v_sn v_pn v_pc g_nil d_nil p_nil m_mv m_fr z_nil z_cons z_an z_ac g_cons d_cons p_cons y_mov y_bin y_eq y_un y_conv y_len y_slen y_idx y_aix y_fad y_load y_store y_boxp y_boxo y_boxm y_alloc y_alloca y_allocm y_nilarr y_build y_bslp y_bslo y_slc y_sslc y_slc3 y_sidx y_mkfn y_ext y_pick y_callf y_callb y_appd y_clear y_mxn y_field y_nilc y_make y_makeb y_buildm y_boxg y_mkif y_tass y_eqs y_callo y_mkmv y_callx y_vidx nb_if
attribute [local go_sem] nbd VL_mk VL2_mk If_t If_f If_not If_and If_or If_dt If_df If_et If_ef If_ne Ck_t Ck_h Opt_s ld_a ld_c lm_a lm_c renL ren keepR renA idxM invL getObs mapOb renOb allNone putAll fzR fzO fz fzL fzOb fzB frzOk upFrom mapR resOne resA cellsOf oneA oneAL isP isPL okSt kRows kParts fillA setAt bor bor0 bor1 bor2 borC borI key0 key1 key2 keysA fillM cellsM cellM unif ptrA ifOk kPartsM getObsM allNoneM zipU scal0 scalar eqC evNil evNilF memK keyX hideM xbor scal1 scalX scalOb bndA mkMag showM lendV hideV hideR hideOb hideL hideO showL backO noneO mapA List.map_cons List.map_nil List.cons_append List.nil_append List.append_nil List.drop_zero List.drop_succ_cons List.drop_nil List.take_succ_cons List.take_zero List.take_nil List.length_cons List.length_nil List.length_map List.getElem?_map Option.map_some Option.map_none Int.toNat_natCast Int.toNat_zero Int.toNat_one Int.natCast_nonneg List.flatMap_cons List.flatMap_nil List.all_cons List.all_nil List.any_cons List.any_nil Bool.or_false Bool.false_or Bool.or_true Bool.true_or Bool.and_true Bool.true_and Bool.and_false Bool.false_and Bool.not_true Bool.not_false beq_self_eq_true nb_self all_nil List.forall_mem_cons tk_map tk_app bs_self bs_dec bq_t bq_f Bool.not_not decide_true decide_false Bool.not_not and_self and_true true_and eq_self List.reverse_cons List.reverse_nil List.getElem?_cons_zero List.getElem?_cons_succ cond_true cond_false List.set_cons_zero List.set_cons_succ Nat.zero_add Nat.add_zero if_true if_false ite_true ite_false implies_true wrap64 wrap8
open Go.Bits
set_option linter.unusedVariables false
set_option linter.unusedSimpArgs false
set_option maxRecDepth 10000
structure Pt (id od : List Int) (m : Nat) (a b : Nat) : Prop where
  la : a < id.length
  lb : b < id.length
  va : 0 ≤ id.getD a 0
  vb : 0 ≤ id.getD b 0
  eq : meetV id od a b = m
theorem Pt.left {id od : List Int} {m a b : Nat} (h : TrW id od) (p : Pt id od m a b) (hlt : placeT od b < placeT od a) : Pt id od m (upT id a) b ∧ msrT od (upT id a) b < msrT od a b := by
  have pb := h.pos b p.lb p.vb
  obtain ⟨u1, u2, u3, u4⟩ := h.up a p.la p.va (by omega)
  exact ⟨⟨u3, p.lb, u4, p.vb, by rw [← meetV_l h p.la p.lb p.va p.vb hlt]; exact p.eq⟩, by unfold msrT; omega⟩
theorem Pt.right {id od : List Int} {m a b : Nat} (h : TrW id od) (p : Pt id od m a b) (hlt : placeT od a < placeT od b) : Pt id od m a (upT id b) ∧ msrT od a (upT id b) < msrT od a b := by
  have pa := h.pos a p.la p.va
  obtain ⟨u1, u2, u3, u4⟩ := h.up b p.lb p.vb (by omega)
  exact ⟨⟨p.la, u3, p.va, u4, by rw [← meetV_r h p.la p.lb p.va p.vb hlt]; exact p.eq⟩, by unfold msrT; omega⟩
theorem placeD {od : List Int} {a : Nat} (h : a < od.length) : od[a]? = some (placeT od a) := intD h
theorem upD {id : List Int} {a : Nat} (h : a < id.length) (hv : 0 ≤ id.getD a 0) : id[a]? = some ((upT id a : Nat) : Int) := by
  rw [List.getElem?_eq_getElem h]
  have : id.getD a 0 = id[a] := by simp [List.getD_eq_getElem?_getD, h]
  unfold upT
  rw [this] at hv ⊢
  congr 1
  omega
theorem C49 (id od : List Int) (h : TrW id od) (a0 b0 : Nat) (ha : a0 < id.length) (hb : b0 < id.length) (va : 0 ≤ id.getD a0 0) (vb : 0 ≤ id.getD b0 0) : Ctr Try.prog 49 [encTr id od, .int .i64 (a0 : Int), .int .i64 (b0 : Int)] [] (ret [.int .i64 (meetV id od a0 b0 : Int)]) := by
  apply ctr_b A49_ok rfl (Nat.le_of_ble_eq_true rfl)
  unfold A49
  simp only [initL, Nat.reduceAdd, encTr]
  have hl := h.small
  have hlen := h.len
  generalize hm : meetV id od a0 b0 = m
  simp (config := {maxSteps := 2000000, implicitDefEqProofs := false}) (disch := omega) only [↓reduceIte, go_sem, Int.reduceToNat, Nat.reduceAdd, Nat.reduceLeDiff, Nat.reduceEqDiff, Nat.reduceSub, Nat.reduceMul, reduceCtorEq]
  refine loopL (σ := Nat × Nat) (fun p => ⟨[(0, .rp [.sl (id.map encN), .sl (od.map encN)]), (1, .int .i64 (p.1 : Int)), (2, .int .i64 (p.2 : Int))], []⟩) (fun p => Pt id od m p.1 p.2) (fun p => msrT od p.1 p.2) (a0, b0) (by simp (config := {maxSteps := 2000000, implicitDefEqProofs := false}) (disch := omega) only [↓reduceIte, go_sem, Int.reduceToNat, Nat.reduceAdd, Nat.reduceLeDiff, Nat.reduceEqDiff, Nat.reduceSub, Nat.reduceMul, reduceCtorEq]) ⟨ha, hb, va, vb, hm⟩ ?_
  rintro ⟨a, b⟩ hp
  simp only at hp
  simp (config := {maxSteps := 2000000, implicitDefEqProofs := false}) (disch := omega) only [↓reduceIte, go_sem, Int.reduceToNat, Nat.reduceAdd, Nat.reduceLeDiff, Nat.reduceEqDiff, Nat.reduceSub, Nat.reduceMul, reduceCtorEq]
  refine ifE (fun e => ?_) (fun e => ?_)
  · simp (config := {maxSteps := 2000000, implicitDefEqProofs := false}) (disch := omega) only [↓reduceIte, go_sem, Int.reduceToNat, Nat.reduceAdd, Nat.reduceLeDiff, Nat.reduceEqDiff, Nat.reduceSub, Nat.reduceMul, reduceCtorEq]
    refine ⟨?_, rfl⟩
    have hab : a = b := by omega
    have := hp.eq
    rw [← hab, meetV_eq] at this
    rw [this]
  · simp (config := {maxSteps := 2000000, implicitDefEqProofs := false}) (disch := omega) only [↓reduceIte, go_sem, Int.reduceToNat, Nat.reduceAdd, Nat.reduceLeDiff, Nat.reduceEqDiff, Nat.reduceSub, Nat.reduceMul, reduceCtorEq]
    refine loopL (σ := Nat × Nat) (fun p => ⟨[(0, .rp [.sl (id.map encN), .sl (od.map encN)]), (1, .int .i64 (p.1 : Int)), (2, .int .i64 (p.2 : Int))], []⟩) (fun p => Pt id od m p.1 p.2 ∧ (msrT od p.1 p.2 < msrT od a b ∨ (p.1 = a ∧ p.2 = b))) (fun p => msrT od p.1 p.2) (a, b) (by simp (config := {maxSteps := 2000000, implicitDefEqProofs := false}) (disch := omega) only [↓reduceIte, go_sem, Int.reduceToNat, Nat.reduceAdd, Nat.reduceLeDiff, Nat.reduceEqDiff, Nat.reduceSub, Nat.reduceMul, reduceCtorEq]) ⟨hp, .inr ⟨rfl, rfl⟩⟩ ?_
    rintro ⟨a1, b1⟩ ⟨hp1, hq1⟩
    simp only at hp1 hq1
    have pa1 := placeD (od := od) (a := a1) (by have := hp1.la; omega)
    have pb1 := placeD (od := od) (a := b1) (by have := hp1.lb; omega)
    have la1 := hp1.la
    have lb1 := hp1.lb
    simp (config := {maxSteps := 2000000, implicitDefEqProofs := false}) (disch := omega) only [↓reduceIte, go_sem, Int.reduceToNat, Nat.reduceAdd, Nat.reduceLeDiff, Nat.reduceEqDiff, Nat.reduceSub, Nat.reduceMul, reduceCtorEq, pa1, pb1, encN]
    refine accL (by kernel_rfl) ?_
    simp (config := {maxSteps := 2000000, implicitDefEqProofs := false}) (disch := omega) only [↓reduceIte, go_sem, Int.reduceToNat, Nat.reduceAdd, Nat.reduceLeDiff, Nat.reduceEqDiff, Nat.reduceSub, Nat.reduceMul, reduceCtorEq, pa1, pb1, encN]
    refine ifD (fun c1 => ?_) (fun c1 => ?_)
    · have hu := upD hp1.la hp1.va
      simp (config := {maxSteps := 2000000, implicitDefEqProofs := false}) (disch := omega) only [↓reduceIte, go_sem, Int.reduceToNat, Nat.reduceAdd, Nat.reduceLeDiff, Nat.reduceEqDiff, Nat.reduceSub, Nat.reduceMul, reduceCtorEq, hu, encN]
      obtain ⟨g1, g2⟩ := hp1.left h c1
      refine ⟨(upT id a1, b1), by simp, ⟨g1, .inl ?_⟩, g2⟩
      rcases hq1 with hq1 | ⟨rfl, rfl⟩
      · simp only; omega
      · exact g2
    · simp (config := {maxSteps := 2000000, implicitDefEqProofs := false}) (disch := omega) only [↓reduceIte, go_sem, Int.reduceToNat, Nat.reduceAdd, Nat.reduceLeDiff, Nat.reduceEqDiff, Nat.reduceSub, Nat.reduceMul, reduceCtorEq]
      refine loopL (σ := Nat × Nat) (fun p => ⟨[(0, .rp [.sl (id.map encN), .sl (od.map encN)]), (1, .int .i64 (p.1 : Int)), (2, .int .i64 (p.2 : Int))], []⟩) (fun p => Pt id od m p.1 p.2 ∧ (msrT od p.1 p.2 < msrT od a b ∨ (p.1 = a ∧ p.2 = b ∧ ¬ placeT od b < placeT od a))) (fun p => msrT od p.1 p.2) (a1, b1) (by simp (config := {maxSteps := 2000000, implicitDefEqProofs := false}) (disch := omega) only [↓reduceIte, go_sem, Int.reduceToNat, Nat.reduceAdd, Nat.reduceLeDiff, Nat.reduceEqDiff, Nat.reduceSub, Nat.reduceMul, reduceCtorEq]) ⟨hp1, hq1.imp (fun h => h) (fun ⟨h1, h2⟩ => ⟨h1, h2, by rw [← h1, ← h2]; omega⟩)⟩ ?_
      rintro ⟨a2, b2⟩ ⟨hp2, hq2⟩
      simp only at hp2 hq2
      have pa2 := placeD (od := od) (a := a2) (by have := hp2.la; omega)
      have pb2 := placeD (od := od) (a := b2) (by have := hp2.lb; omega)
      have la2 := hp2.la
      have lb2 := hp2.lb
      simp (config := {maxSteps := 2000000, implicitDefEqProofs := false}) (disch := omega) only [↓reduceIte, go_sem, Int.reduceToNat, Nat.reduceAdd, Nat.reduceLeDiff, Nat.reduceEqDiff, Nat.reduceSub, Nat.reduceMul, reduceCtorEq, pa2, pb2, encN]
      refine accL (by kernel_rfl) ?_
      simp (config := {maxSteps := 2000000, implicitDefEqProofs := false}) (disch := omega) only [↓reduceIte, go_sem, Int.reduceToNat, Nat.reduceAdd, Nat.reduceLeDiff, Nat.reduceEqDiff, Nat.reduceSub, Nat.reduceMul, reduceCtorEq, pa2, pb2, encN]
      refine ifD (fun c2 => ?_) (fun c2 => ?_)
      · have hu := upD hp2.lb hp2.vb
        simp (config := {maxSteps := 2000000, implicitDefEqProofs := false}) (disch := omega) only [↓reduceIte, go_sem, Int.reduceToNat, Nat.reduceAdd, Nat.reduceLeDiff, Nat.reduceEqDiff, Nat.reduceSub, Nat.reduceMul, reduceCtorEq, hu, encN]
        obtain ⟨g1, g2⟩ := hp2.right h c2
        refine ⟨(a2, upT id b2), by simp, ⟨g1, .inl ?_⟩, g2⟩
        rcases hq2 with hq2 | ⟨rfl, rfl, _⟩
        · simp only; omega
        · exact g2
      · simp (config := {maxSteps := 2000000, implicitDefEqProofs := false}) (disch := omega) only [↓reduceIte, go_sem, Int.reduceToNat, Nat.reduceAdd, Nat.reduceLeDiff, Nat.reduceEqDiff, Nat.reduceSub, Nat.reduceMul, reduceCtorEq]
        refine ⟨(a2, b2), by simp, hp2, ?_⟩
        rcases hq2 with hq2 | ⟨h1, h2, h3⟩
        · exact hq2
        · exfalso
          subst h1 h2
          exact e (by rw [h.inj a2 b2 hp2.la hp2.lb hp2.va hp2.vb (by omega)])
end Go.Proofs.Yticjemfgbfphdaa.X
/- dom: one round. -/
namespace Go.Proofs.Yticjemfgbfphdaa.X
open Go Go.AM Go.Proofs
attribute [local go_sem ↓] w_skip w_lbl w_ops w_draw w_pre w_post w_alt w_seq w_cond w_block w_join w_loop w_exit w_ret w_scope w_rfunc l_nil l_cons th_n th_e th_r bk_n bk_r bk_e t_nil t_it t_call i_nil i_one i_grp s_nil s_cons c_call e_mv e_nil e_dyn e_nilb e_frz o_mov o_bin o_eq o_un o_conv o_len o_slen o_idx o_aix o_fad o_load o_store o_boxp o_boxo o_boxm o_alloc o_allocm o_alloca o_nilarr o_build o_bslp o_bslo o_slc o_sslc o_slc3 o_sidx o_mkfn o_mkmv o_vidx o_ext o_pick o_callf o_callb o_appd o_clear o_mxn o_field o_nilc o_make o_makeb o_buildm o_boxg o_mkif o_tass o_eqs o_callo o_callx k_int k_str k_bool k_grb k_grt k_some k_none k_arr k_lens k_lenf k_lenh k_lenb k_idxb k_idxs k_idxf k_idxh k_ld k_loadp k_loadr k_loade k_storer k_storee k_oin k_ois k_slcs k_slcf k_slch k_slc3s k_slc3f k_slc3h k_app2 k_apps k_appf k_apph k_cals k_cald k_cali k_cnb k_cna k_esn k_esc k_efn k_efc k_esh b_add b_sub b_mul b_quo b_rem b_and b_or b_xor b_andNot b_eql b_neq b_lss b_leq b_gtr b_geq b_shl b_shr b_seq b_sne b_slt b_sad q_bool q_str q_nil q_nilf u_not u_neg u_xor f_ret f_nor v_r v_c v_g v_reg v_ob v_set v_put v_so v_sn v_pn v_pc g_nil d_nil p_nil m_mv m_fr z_nil z_cons z_an z_ac g_cons d_cons p_cons y_mov y_bin y_eq y_un y_conv y_len y_slen y_idx y_aix y_fad y_load y_store y_boxp y_boxo y_boxm y_alloc y_alloca y_allocm y_nilarr y_build y_bslp y_bslo y_slc y_sslc y_slc3 y_sidx y_mkfn y_ext y_pick y_callf y_callb y_appd y_clear y_mxn y_field y_nilc y_make y_makeb y_buildm y_boxg y_mkif y_tass y_eqs y_callo y_mkmv y_callx y_vidx nb_if
attribute [local go_sem] nbd VL_mk VL2_mk If_t If_f If_not If_and If_or If_dt If_df If_et If_ef If_ne Ck_t Ck_h Opt_s ld_a ld_c lm_a lm_c renL ren keepR renA idxM invL getObs mapOb renOb allNone putAll fzR fzO fz fzL fzOb fzB frzOk upFrom mapR resOne resA cellsOf oneA oneAL isP isPL okSt kRows kParts fillA setAt bor bor0 bor1 bor2 borC borI key0 key1 key2 keysA fillM cellsM cellM unif ptrA ifOk kPartsM getObsM allNoneM zipU scal0 scalar eqC evNil evNilF memK keyX hideM xbor scal1 scalX scalOb bndA mkMag showM lendV hideV hideR hideOb hideL hideO showL backO noneO mapA List.map_cons List.map_nil List.cons_append List.nil_append List.append_nil List.drop_zero List.drop_succ_cons List.drop_nil List.take_succ_cons List.take_zero List.take_nil List.length_cons List.length_nil List.length_map List.getElem?_map Option.map_some Option.map_none Int.toNat_natCast Int.toNat_zero Int.toNat_one Int.natCast_nonneg List.flatMap_cons List.flatMap_nil List.all_cons List.all_nil List.any_cons List.any_nil Bool.or_false Bool.false_or Bool.or_true Bool.true_or Bool.and_true Bool.true_and Bool.and_false Bool.false_and Bool.not_true Bool.not_false beq_self_eq_true nb_self all_nil List.forall_mem_cons tk_map tk_app bs_self bs_dec bq_t bq_f Bool.not_not decide_true decide_false Bool.not_not and_self and_true true_and eq_self List.reverse_cons List.reverse_nil List.getElem?_cons_zero List.getElem?_cons_succ cond_true cond_false List.set_cons_zero List.set_cons_succ Nat.zero_add Nat.add_zero if_true if_false ite_true ite_false implies_true wrap64 wrap8
open Go.Bits
set_option linter.unusedVariables false
set_option linter.unusedSimpArgs false
set_option maxRecDepth 10000
theorem meetT_ok {id od : List Int} (h : TrW id od) : ∀ {f a b : Nat}, a < id.length → b < id.length → 0 ≤ id.getD a 0 → 0 ≤ id.getD b 0 → meetT id od f a b < id.length ∧ 0 ≤ id.getD (meetT id od f a b) 0
  | 0, a, b, la, lb, va, vb => ⟨la, va⟩
  | f + 1, a, b, la, lb, va, vb => by
    simp only [meetT]
    by_cases e : a = b
    · rw [if_pos e]; exact ⟨la, va⟩
    · rw [if_neg e]
      have pa := h.pos a la va
      have pb := h.pos b lb vb
      have hne : placeT od a ≠ placeT od b := fun e2 => e (h.inj a b la lb va vb e2)
      by_cases hlt : placeT od b < placeT od a
      · rw [if_pos hlt]
        obtain ⟨u1, u2, u3, u4⟩ := h.up a la va (by omega)
        exact meetT_ok h u3 lb u4 vb
      · rw [if_neg hlt]
        obtain ⟨u1, u2, u3, u4⟩ := h.up b lb vb (by omega)
        exact meetT_ok h la u3 va u4
/-- One way in more. -/
def stepB (id od : List Int) (best : Int) (p : Nat) : Int := if placeT od p = -1 ∨ id.getD p (-1) = -1 then best else if best = -1 then (p : Int) else (meetV id od best.toNat p : Int)
def bestT (id od : List Int) (ps : List Nat) : Int := ps.foldl (stepB id od) (-1)
def stepR (od : List Int) (P : List (List Nat)) (x : List Int × Bool) (i : Nat) : List Int × Bool := if x.1.getD i (-1) = bestT x.1 od (P.getD i []) then x else (x.1.set i (bestT x.1 od (P.getD i [])), true)
def roundT (od : List Int) (P : List (List Nat)) (id : List Int) (l : List Nat) : List Int × Bool := l.foldl (stepR od P) (id, false)
def okB (id : List Int) (best : Int) : Prop := best = -1 ∨ (0 ≤ best ∧ best.toNat < id.length ∧ 0 ≤ id.getD best.toNat 0)
theorem vD {id : List Int} {p : Nat} (h : p < id.length) (hr : -1 ≤ id.getD p (-1)) (hn : id.getD p (-1) ≠ -1) : 0 ≤ id.getD p 0 := by
  have e1 : id.getD p (-1) = id[p] := by simp [List.getD_eq_getElem?_getD, h]
  have e2 : id.getD p 0 = id[p] := by simp [List.getD_eq_getElem?_getD, h]
  omega
theorem stepB_ok {id od : List Int} (h : TrW id od) (hr : ∀ p, -1 ≤ id.getD p (-1)) {best : Int} {p : Nat} (hb : okB id best) (hp : p < id.length) : okB id (stepB id od best p) := by
  unfold stepB
  by_cases h1 : placeT od p = -1 ∨ id.getD p (-1) = -1
  · rw [if_pos h1]; exact hb
  · rw [if_neg h1]
    have hv := vD hp (hr p) (fun e => h1 (.inr e))
    by_cases h2 : best = -1
    · rw [if_pos h2]
      exact .inr ⟨by omega, by simpa using hp, by simpa using hv⟩
    · rw [if_neg h2]
      rcases hb with hb | ⟨b1, b2, b3⟩
      · exact absurd hb h2
      · have := meetT_ok h (f := msrT od best.toNat p) b2 hp b3 hv
        exact .inr ⟨by omega, by rw [Int.toNat_natCast]; exact this.1, by rw [Int.toNat_natCast]; exact this.2⟩
theorem C31 (S P : List (List Nat)) (hs : GrOk S) (hPl : P.length = S.length) (hP : ∀ i, (P.getD i []).length < 1000000 ∧ ∀ p ∈ P.getD i [], p < S.length) (id od : List Int) (l : List Nat) (hol : od.length = S.length) (hll : l.length < 1000000) (hl : ∀ i ∈ l, i < S.length)
    (hT : ∀ k, k ≤ l.length → TrW ((l.take k).foldl (stepR od P) (id, false)).1 od ∧ ∀ p, -1 ≤ ((l.take k).foldl (stepR od P) (id, false)).1.getD p (-1)) :
    Ctr Try.prog 31 [.ref 0 0, grP S P, .sl (l.map encK)] [.box [.hs 1 0 0 S.length, .hs 2 0 0 S.length], .arr 0 1 (id.map encN), .arr 0 1 (od.map encN)]
      (retO [.bool (roundT od P id l).2] [.box [.hs 1 0 0 S.length, .hs 2 0 0 S.length], .arr 0 1 ((roundT od P id l).1.map encN), .arr 0 1 (od.map encN)]) := by
  apply ctr_b A31_ok rfl (Nat.le_of_ble_eq_true rfl)
  unfold A31
  simp only [initL, Nat.reduceAdd, grP]
  have hsl := hs.len
  simp (config := {maxSteps := 2000000, implicitDefEqProofs := false}) (disch := omega) only [↓reduceIte, go_sem, Int.reduceToNat, Nat.reduceAdd, Nat.reduceLeDiff, Nat.reduceEqDiff, Nat.reduceSub, Nat.reduceMul, reduceCtorEq]
  refine loopL (σ := Nat × List Int × Bool) (fun x => ⟨[(0, .ref 0 0), (1, .rp [.sl (encRows S), .sl (encRows P)]), (7, .bool x.2.2), (13, .sl (l.map encK)), (14, .int .i64 (l.length : Int)), (15, .int .i64 (x.1 : Int))], [(0, .box [.hs 1 0 0 S.length, .hs 2 0 0 S.length]), (1, .arr 0 1 (x.2.1.map encN)), (2, .arr 0 1 (od.map encN))]⟩)
    (fun x => x.1 ≤ l.length ∧ x.2 = (l.take x.1).foldl (stepR od P) (id, false)) (fun x => l.length - x.1) (0, id, false) (by simp (config := {maxSteps := 2000000, implicitDefEqProofs := false}) (disch := omega) only [↓reduceIte, go_sem, Int.reduceToNat, Nat.reduceAdd, Nat.reduceLeDiff, Nat.reduceEqDiff, Nat.reduceSub, Nat.reduceMul, reduceCtorEq]; rfl) ⟨Nat.zero_le _, rfl⟩ ?_
  rintro ⟨s, idk, ch⟩ ⟨h1, h2⟩
  simp only at h1 h2
  simp (config := {maxSteps := 2000000, implicitDefEqProofs := false}) (disch := omega) only [↓reduceIte, go_sem, Int.reduceToNat, Nat.reduceAdd, Nat.reduceLeDiff, Nat.reduceEqDiff, Nat.reduceSub, Nat.reduceMul, reduceCtorEq]
  refine ifD (fun c => ?_) (fun c => ?_)
  · have hgi : l[s]? = some (l.getD s 0) := getD0 (by omega)
    have hstep : (l.take (s + 1)).foldl (stepR od P) (id, false) = stepR od P (idk, ch) (l.getD s 0) := by
      rw [snoc_take hgi, List.foldl_append, ← h2]; rfl
    have hiS := hl _ (List.mem_of_getElem? hgi)
    have hTk := hT s h1
    rw [← h2] at hTk
    simp only at hTk
    generalize l.getD s 0 = i at hgi hstep hiS
    have hPi := hP i
    have hPg : P[i]? = some (P.getD i []) := by
      rw [List.getElem?_eq_getElem (by omega)]
      simp [List.getD_eq_getElem?_getD, show i < P.length by omega]
    simp (config := {maxSteps := 2000000, implicitDefEqProofs := false}) (disch := omega) only [↓reduceIte, go_sem, Int.reduceToNat, Nat.reduceAdd, Nat.reduceLeDiff, Nat.reduceEqDiff, Nat.reduceSub, Nat.reduceMul, reduceCtorEq, hgi, encK]
    refine callL (C48 S P i (P.getD i []) hiS hPg hPi.1) ?_
    simp (config := {maxSteps := 2000000, implicitDefEqProofs := false}) (disch := omega) only [↓reduceIte, go_sem, Int.reduceToNat, Nat.reduceAdd, Nat.reduceLeDiff, Nat.reduceEqDiff, Nat.reduceSub, Nat.reduceMul, reduceCtorEq, hgi, encK]
    have hbT : bestT idk od (P.getD i []) = (P.getD i []).foldl (stepB idk od) (-1) := rfl
    generalize hpsE : P.getD i [] = ps at hPi hPg hbT
    have hpsE := hpsE.symm
    have hki : idk.length = S.length := by rw [hTk.1.len, hol]
    have hti : List.take S.length (List.map encN idk) = List.map encN idk := List.take_of_length_le (by simp [hki])
    have hto : List.take S.length (List.map encN od) = List.map encN od := List.take_of_length_le (by simp [hol])
    refine loopL (σ := Nat × Int) (fun x => ⟨[(0, .ref 0 0), (1, .rp [.sl (encRows S), .sl (encRows P)]), (7, .bool ch), (9, .int .i64 (i : Int)), (10, .int .i64 x.2), (13, .sl (l.map encK)), (14, .int .i64 (l.length : Int)), (15, .int .i64 (s : Int)), (21, .sl (ps.map encK)), (22, .int .i64 (ps.length : Int)), (23, .int .i64 (x.1 : Int))], [(0, .box [.hs 1 0 0 S.length, .hs 2 0 0 S.length]), (1, .arr 0 1 (idk.map encN)), (2, .arr 0 1 (od.map encN))]⟩)
      (fun x => x.1 ≤ ps.length ∧ x.2 = (ps.take x.1).foldl (stepB idk od) (-1) ∧ okB idk x.2) (fun x => ps.length - x.1) (0, -1) (by simp (config := {maxSteps := 2000000, implicitDefEqProofs := false}) (disch := omega) only [↓reduceIte, go_sem, Int.reduceToNat, Nat.reduceAdd, Nat.reduceLeDiff, Nat.reduceEqDiff, Nat.reduceSub, Nat.reduceMul, reduceCtorEq]; rfl) ⟨Nat.zero_le _, rfl, .inl rfl⟩ ?_
    rintro ⟨k, best⟩ ⟨g1, g2, g3⟩
    simp only at g1 g2 g3
    simp (config := {maxSteps := 2000000, implicitDefEqProofs := false}) (disch := omega) only [↓reduceIte, go_sem, Int.reduceToNat, Nat.reduceAdd, Nat.reduceLeDiff, Nat.reduceEqDiff, Nat.reduceSub, Nat.reduceMul, reduceCtorEq]
    refine ifD (fun c2 => ?_) (fun c2 => ?_)
    · have hgp : ps[k]? = some (ps.getD k 0) := getD0 (by omega)
      have hst2 : (ps.take (k + 1)).foldl (stepB idk od) (-1) = stepB idk od best (ps.getD k 0) := by
        rw [snoc_take hgp, List.foldl_append, ← g2]; rfl
      have hpS := hPi.2 _ (List.mem_of_getElem? hgp)
      have hok := stepB_ok hTk.1 hTk.2 g3 (p := ps.getD k 0) (by omega)
      generalize ps.getD k 0 = p at hgp hst2 hpS hok
      have hpo := placeD (od := od) (a := p) (by omega)
      have hpi := intD (l := idk) (k := p) (by omega)
      rw [← hst2] at hok
      simp (config := {maxSteps := 2000000, implicitDefEqProofs := false}) (disch := omega) only [↓reduceIte, go_sem, Int.reduceToNat, Nat.reduceAdd, Nat.reduceLeDiff, Nat.reduceEqDiff, Nat.reduceSub, Nat.reduceMul, reduceCtorEq, hgp, encK, hpo, encN]
      refine ifE (fun e1 => ?_) (fun e1 => ?_)
      · simp (config := {maxSteps := 2000000, implicitDefEqProofs := false}) (disch := omega) only [↓reduceIte, go_sem, Int.reduceToNat, Nat.reduceAdd, Nat.reduceLeDiff, Nat.reduceEqDiff, Nat.reduceSub, Nat.reduceMul, reduceCtorEq, hgp, encK, hpo, encN]
        exact ⟨(k + 1, best), by simp, ⟨by omega, by rw [hst2, stepB, if_pos (.inl e1)], g3⟩, by simp only; omega⟩
      · simp (config := {maxSteps := 2000000, implicitDefEqProofs := false}) (disch := omega) only [↓reduceIte, go_sem, Int.reduceToNat, Nat.reduceAdd, Nat.reduceLeDiff, Nat.reduceEqDiff, Nat.reduceSub, Nat.reduceMul, reduceCtorEq, hgp, encK, hpo, hpi, encN]
        refine ifE (fun e2 => ?_) (fun e2 => ?_)
        · simp (config := {maxSteps := 2000000, implicitDefEqProofs := false}) (disch := omega) only [↓reduceIte, go_sem, Int.reduceToNat, Nat.reduceAdd, Nat.reduceLeDiff, Nat.reduceEqDiff, Nat.reduceSub, Nat.reduceMul, reduceCtorEq, hgp, encK, hpo, hpi, encN]
          exact ⟨(k + 1, best), by simp, ⟨by omega, by rw [hst2, stepB, if_pos (.inr e2)], g3⟩, by simp only; omega⟩
        · have hno : ¬ (placeT od p = -1 ∨ idk.getD p (-1) = -1) := fun h => h.elim e1 e2
          simp (config := {maxSteps := 2000000, implicitDefEqProofs := false}) (disch := omega) only [↓reduceIte, go_sem, Int.reduceToNat, Nat.reduceAdd, Nat.reduceLeDiff, Nat.reduceEqDiff, Nat.reduceSub, Nat.reduceMul, reduceCtorEq, hgp, encK, hpo, hpi, encN]
          refine ifE (fun e3 => ?_) (fun e3 => ?_)
          · simp (config := {maxSteps := 2000000, implicitDefEqProofs := false}) (disch := omega) only [↓reduceIte, go_sem, Int.reduceToNat, Nat.reduceAdd, Nat.reduceLeDiff, Nat.reduceEqDiff, Nat.reduceSub, Nat.reduceMul, reduceCtorEq]
            have hh : stepB idk od best p = (p : Int) := by rw [stepB, if_neg hno, if_pos e3]
            exact ⟨(k + 1, (p : Int)), by simp, ⟨by omega, by rw [hst2, hh], by rw [hst2, hh] at hok; exact hok⟩, by simp only; omega⟩
          · have hb2 := g3.resolve_left e3
            have hv := vD (id := idk) (p := p) (by omega) (hTk.2 p) e2
            have hcall := C49 idk od hTk.1 best.toNat p hb2.2.1 (by omega) hb2.2.2 hv
            rw [Int.toNat_of_nonneg hb2.1] at hcall
            have hh : stepB idk od best p = (meetV idk od best.toNat p : Int) := by rw [stepB, if_neg hno, if_neg e3]
            simp (config := {maxSteps := 2000000, implicitDefEqProofs := false}) (disch := omega) only [↓reduceIte, go_sem, Int.reduceToNat, Nat.reduceAdd, Nat.reduceLeDiff, Nat.reduceEqDiff, Nat.reduceSub, Nat.reduceMul, reduceCtorEq, hti, hto]
            refine callL hcall ?_
            simp (config := {maxSteps := 2000000, implicitDefEqProofs := false}) (disch := omega) only [↓reduceIte, go_sem, Int.reduceToNat, Nat.reduceAdd, Nat.reduceLeDiff, Nat.reduceEqDiff, Nat.reduceSub, Nat.reduceMul, reduceCtorEq]
            exact ⟨(k + 1, (meetV idk od best.toNat p : Int)), by simp, ⟨by omega, by rw [hst2, hh], by rw [hst2, hh] at hok; exact hok⟩, by simp only; omega⟩
    · have hke : k = ps.length := by omega
      have hbe : best = bestT idk od ps := by rw [hbT, g2, hke, List.take_length]
      have hii := intD (l := idk) (k := i) (by omega)
      have hps : ps = P.getD i [] := hpsE
      simp (config := {maxSteps := 2000000, implicitDefEqProofs := false}) (disch := omega) only [↓reduceIte, go_sem, Int.reduceToNat, Nat.reduceAdd, Nat.reduceLeDiff, Nat.reduceEqDiff, Nat.reduceSub, Nat.reduceMul, reduceCtorEq, hii, encN]
      refine ifE (fun e1 => ?_) (fun e1 => ?_)
      · simp (config := {maxSteps := 2000000, implicitDefEqProofs := false}) (disch := omega) only [↓reduceIte, go_sem, Int.reduceToNat, Nat.reduceAdd, Nat.reduceLeDiff, Nat.reduceEqDiff, Nat.reduceSub, Nat.reduceMul, reduceCtorEq]
        have hh : stepR od P (idk, ch) i = (idk, ch) := by rw [stepR, if_pos (by rw [← hps, ← hbe]; exact e1)]
        exact ⟨(s + 1, idk, ch), by simp, ⟨by omega, by rw [hstep, hh]⟩, by simp only; omega⟩
      · simp (config := {maxSteps := 2000000, implicitDefEqProofs := false}) (disch := omega) only [↓reduceIte, go_sem, Int.reduceToNat, Nat.reduceAdd, Nat.reduceLeDiff, Nat.reduceEqDiff, Nat.reduceSub, Nat.reduceMul, reduceCtorEq, hii, encN]
        have hh : stepR od P (idk, ch) i = (idk.set i best, true) := by rw [stepR, if_neg (by rw [← hps, ← hbe]; exact e1), ← hps, ← hbe]
        refine ⟨(s + 1, idk.set i best, true), ?_, ⟨by omega, by rw [hstep, hh]⟩, by simp only; omega⟩
        simp [List.map_set, encN]
  · simp (config := {maxSteps := 2000000, implicitDefEqProofs := false}) (disch := omega) only [↓reduceIte, go_sem, Int.reduceToNat, Nat.reduceAdd, Nat.reduceLeDiff, Nat.reduceEqDiff, Nat.reduceSub, Nat.reduceMul, reduceCtorEq]
    have hse : s = l.length := by omega
    subst hse
    rw [List.take_length] at h2
    have e1 : (roundT od P id l) = (idk, ch) := h2.symm
    rw [e1]
    exact ⟨rfl, rfl⟩
end Go.Proofs.Yticjemfgbfphdaa.X
/- dom: the tree. -/
namespace Go.Proofs.Yticjemfgbfphdaa.X
open Go Go.AM Go.Proofs
attribute [local go_sem ↓] w_skip w_lbl w_ops w_draw w_pre w_post w_alt w_seq w_cond w_block w_join w_loop w_exit w_ret w_scope w_rfunc l_nil l_cons th_n th_e th_r bk_n bk_r bk_e t_nil t_it t_call i_nil i_one i_grp s_nil s_cons c_call e_mv e_nil e_dyn e_nilb e_frz o_mov o_bin o_eq o_un o_conv o_len o_slen o_idx o_aix o_fad o_load o_store o_boxp o_boxo o_boxm o_alloc o_allocm o_alloca o_nilarr o_build o_bslp o_bslo o_slc o_sslc o_slc3 o_sidx o_mkfn o_mkmv o_vidx o_ext o_pick o_callf o_callb o_appd o_clear o_mxn o_field o_nilc o_make o_makeb o_buildm o_boxg o_mkif o_tass o_eqs o_callo o_callx k_int k_str k_bool k_grb k_grt k_some k_none k_arr k_lens k_lenf k_lenh k_lenb k_idxb k_idxs k_idxf k_idxh k_ld k_loadp k_loadr k_loade k_storer k_storee k_oin k_ois k_slcs k_slcf k_slch k_slc3s k_slc3f k_slc3h k_app2 k_apps k_appf k_apph k_cals k_cald k_cali k_cnb k_cna k_esn k_esc k_efn k_efc k_esh b_add b_sub b_mul b_quo b_rem b_and b_or b_xor b_andNot b_eql b_neq b_lss b_leq b_gtr b_geq b_shl b_shr b_seq b_sne b_slt b_sad q_bool q_str q_nil q_nilf u_not u_neg u_xor f_ret f_nor v_r v_c v_g v_reg v_ob v_set v_put v_so v_sn v_pn v_pc g_nil d_nil p_nil m_mv m_fr z_nil z_cons z_an z_ac g_cons d_cons p_cons y_mov y_bin y_eq y_un y_conv y_len y_slen y_idx y_aix y_fad y_load y_store y_boxp y_boxo y_boxm y_alloc y_alloca y_allocm y_nilarr y_build y_bslp y_bslo y_slc y_sslc y_slc3 y_sidx y_mkfn y_ext y_pick y_callf y_callb y_appd y_clear y_mxn y_field y_nilc y_make y_makeb y_buildm y_boxg y_mkif y_tass y_eqs y_callo y_mkmv y_callx y_vidx nb_if
attribute [local go_sem] nbd VL_mk VL2_mk If_t If_f If_not If_and If_or If_dt If_df If_et If_ef If_ne Ck_t Ck_h Opt_s ld_a ld_c lm_a lm_c renL ren keepR renA idxM invL getObs mapOb renOb allNone putAll fzR fzO fz fzL fzOb fzB frzOk upFrom mapR resOne resA cellsOf oneA oneAL isP isPL okSt kRows kParts fillA setAt bor bor0 bor1 bor2 borC borI key0 key1 key2 keysA fillM cellsM cellM unif ptrA ifOk kPartsM getObsM allNoneM zipU scal0 scalar eqC evNil evNilF memK keyX hideM xbor scal1 scalX scalOb bndA mkMag showM lendV hideV hideR hideOb hideL hideO showL backO noneO mapA List.map_cons List.map_nil List.cons_append List.nil_append List.append_nil List.drop_zero List.drop_succ_cons List.drop_nil List.take_succ_cons List.take_zero List.take_nil List.length_cons List.length_nil List.length_map List.getElem?_map Option.map_some Option.map_none Int.toNat_natCast Int.toNat_zero Int.toNat_one Int.natCast_nonneg List.flatMap_cons List.flatMap_nil List.all_cons List.all_nil List.any_cons List.any_nil Bool.or_false Bool.false_or Bool.or_true Bool.true_or Bool.and_true Bool.true_and Bool.and_false Bool.false_and Bool.not_true Bool.not_false beq_self_eq_true nb_self all_nil List.forall_mem_cons tk_map tk_app bs_self bs_dec bq_t bq_f Bool.not_not decide_true decide_false Bool.not_not and_self and_true true_and eq_self List.reverse_cons List.reverse_nil List.getElem?_cons_zero List.getElem?_cons_succ cond_true cond_false List.set_cons_zero List.set_cons_succ Nat.zero_add Nat.add_zero if_true if_false ite_true ite_false implies_true wrap64 wrap8
open Go.Bits
set_option linter.unusedVariables false
set_option linter.unusedSimpArgs false
set_option maxRecDepth 10000
def minS (n s : Nat) : List Int := (List.range n).map fun v => if v < s then -1 else 0
theorem minS_len {n s : Nat} : (minS n s).length = n := by simp [minS]
theorem minS_set {n s : Nat} (h : s < n) : (minS n s).set s (-1) = minS n (s + 1) := by
  apply List.ext_getElem?
  intro k
  by_cases hk : k < n
  · by_cases e : k = s
    · subst e
      rw [List.getElem?_set_self (by rw [minS_len]; exact h)]
      simp [minS, h]
    · rw [List.getElem?_set_ne (Ne.symm e)]
      simp only [minS, List.getElem?_map, List.getElem?_range hk, Option.map_some]
      congr 1
      by_cases h2 : k < s
      · rw [if_pos h2, if_pos (by omega)]
      · rw [if_neg h2, if_neg (by omega)]
  · rw [List.getElem?_eq_none (by simp [minS_len]; omega), List.getElem?_eq_none (by rw [minS_len]; omega)]
def odF : Nat → List Nat → List Int → List Int
  | _, [], o => o
  | k, i :: r, o => odF (k + 1) r (o.set i (k : Int))
theorem odF_len : ∀ {l : List Nat} {k : Nat} {o : List Int}, (odF k l o).length = o.length
  | [], k, o => rfl
  | i :: r, k, o => by simp only [odF]; rw [odF_len]; simp
def odT (n : Nat) (l : List Nat) : List Int := odF 0 l (minS n n)
def seqT (n : Nat) (od : List Int) (P : List (List Nat)) (l : List Nat) : Nat → List Int
  | 0 => (minS n n).set 0 0
  | k + 1 => (roundT od P (seqT n od P l k) l).1
set_option maxHeartbeats 1000000 in
theorem C9 (S P : List (List Nat)) (hs : GrOk S) (hPl : P.length = S.length) (hP : ∀ i, (P.getD i []).length < 1000000 ∧ ∀ p ∈ P.getD i [], p < S.length) (h0 : 0 < S.length) (l : List Nat) (hord : orderP S = 0 :: l) (hl : ∀ i ∈ l, i < S.length) (hll : l.length < 1000000) (N : Nat)
    (hN : (∀ k, k < N → (roundT (odT S.length (0 :: l)) P (seqT S.length (odT S.length (0 :: l)) P l k) l).2 = true) ∧ (roundT (odT S.length (0 :: l)) P (seqT S.length (odT S.length (0 :: l)) P l N) l).2 = false ∧ (roundT (odT S.length (0 :: l)) P (seqT S.length (odT S.length (0 :: l)) P l N) l).1 = seqT S.length (odT S.length (0 :: l)) P l N)
    (hT : ∀ j, j ≤ N → ∀ k, k ≤ l.length → TrW ((l.take k).foldl (stepR (odT S.length (0 :: l)) P) (seqT S.length (odT S.length (0 :: l)) P l j, false)).1 (odT S.length (0 :: l)) ∧ ∀ p, -1 ≤ ((l.take k).foldl (stepR (odT S.length (0 :: l)) P) (seqT S.length (odT S.length (0 :: l)) P l j, false)).1.getD p (-1)) :
    Ctr Try.prog 9 [grP S P] [] (ret [encTr ((seqT S.length (odT S.length (0 :: l)) P l N).set 0 (-1)) (odT S.length (0 :: l))]) := by
  apply ctr_b A9_ok rfl (Nat.le_of_ble_eq_true rfl)
  unfold A9
  simp only [initL, Nat.reduceAdd]
  have hsl := hs.len
  have hp : isP (grP S P) = true := rfl
  have hrn : ∀ m, ren m (grP S P) = grP S P := fun m => by simp only [grP, ren]
  have hmk : List.replicate S.length [AV.int IntKind.i64 0] = (minS S.length 0).map encN := by
    apply List.ext_getElem?
    intro k
    by_cases hk : k < S.length
    · simp [minS, hk, encN]
    · rw [List.getElem?_eq_none (by simp; omega), List.getElem?_eq_none (by simp [minS]; omega)]
  simp (config := {maxSteps := 2000000, implicitDefEqProofs := false}) (disch := omega) only [↓reduceIte, go_sem, Int.reduceToNat, Nat.reduceAdd, Nat.reduceLeDiff, Nat.reduceEqDiff, Nat.reduceSub, Nat.reduceMul, reduceCtorEq, hp, hrn]
  refine callL (C29 S P) ?_
  simp (config := {maxSteps := 2000000, implicitDefEqProofs := false}) (disch := omega) only [↓reduceIte, go_sem, Int.reduceToNat, Nat.reduceAdd, Nat.reduceLeDiff, Nat.reduceEqDiff, Nat.reduceSub, Nat.reduceMul, reduceCtorEq, hp, hrn, hmk]
  refine callL (C29 S P) ?_
  simp (config := {maxSteps := 2000000, implicitDefEqProofs := false}) (disch := omega) only [↓reduceIte, go_sem, Int.reduceToNat, Nat.reduceAdd, Nat.reduceLeDiff, Nat.reduceEqDiff, Nat.reduceSub, Nat.reduceMul, reduceCtorEq, hp, hrn, hmk]
  refine accL (by kernel_rfl) ?_
  simp (config := {maxSteps := 2000000, implicitDefEqProofs := false}) (disch := omega) only [↓reduceIte, go_sem, Int.reduceToNat, Nat.reduceAdd, Nat.reduceLeDiff, Nat.reduceEqDiff, Nat.reduceSub, Nat.reduceMul, reduceCtorEq, hp, hrn, hmk]
  refine loopL (σ := Nat) (fun s => ⟨[(0, grP S P), (3, .ref 15 0), (20, .int .i64 (S.length : Int)), (21, .int .i64 (s : Int))], [(10, .arr 0 1 ((minS S.length s).map encN)), (13, .arr 0 1 ((minS S.length s).map encN)), (15, .box [.hs 10 0 0 S.length, .hs 13 0 0 S.length])]⟩) (fun s => s ≤ S.length) (fun s => S.length - s) 0 (by simp (config := {maxSteps := 2000000, implicitDefEqProofs := false}) (disch := omega) only [↓reduceIte, go_sem, Int.reduceToNat, Nat.reduceAdd, Nat.reduceLeDiff, Nat.reduceEqDiff, Nat.reduceSub, Nat.reduceMul, reduceCtorEq, hrn, hmk]; rfl) (Nat.zero_le _) ?_
  intro s hs1
  simp (config := {maxSteps := 2000000, implicitDefEqProofs := false}) (disch := omega) only [↓reduceIte, go_sem, Int.reduceToNat, Nat.reduceAdd, Nat.reduceLeDiff, Nat.reduceEqDiff, Nat.reduceSub, Nat.reduceMul, reduceCtorEq, hp, hrn]
  refine ifD (fun c => ?_) (fun c => ?_)
  · have hg := intD (l := minS S.length s) (k := s) (by rw [minS_len]; omega)
    simp (config := {maxSteps := 2000000, implicitDefEqProofs := false}) (disch := omega) only [↓reduceIte, go_sem, Int.reduceToNat, Nat.reduceAdd, Nat.reduceLeDiff, Nat.reduceEqDiff, Nat.reduceSub, Nat.reduceMul, reduceCtorEq, hp, hrn, hg, encN]
    refine accL (by kernel_rfl) ?_
    simp (config := {maxSteps := 2000000, implicitDefEqProofs := false}) (disch := omega) only [↓reduceIte, go_sem, Int.reduceToNat, Nat.reduceAdd, Nat.reduceLeDiff, Nat.reduceEqDiff, Nat.reduceSub, Nat.reduceMul, reduceCtorEq, hp, hrn, hg, encN]
    exact ⟨s + 1, by simp [← minS_set (show s < S.length by omega), List.map_set, encN], by omega, by omega⟩
  · have hse : s = S.length := by omega
    simp (config := {maxSteps := 2000000, implicitDefEqProofs := false}) (disch := omega) only [↓reduceIte, go_sem, Int.reduceToNat, Nat.reduceAdd, Nat.reduceLeDiff, Nat.reduceEqDiff, Nat.reduceSub, Nat.reduceMul, reduceCtorEq, hp, hrn]
    refine callL (C30 S P hs) ?_
    rw [hord, hse]
    simp (config := {maxSteps := 2000000, implicitDefEqProofs := false}) (disch := omega) only [↓reduceIte, go_sem, Int.reduceToNat, Nat.reduceAdd, Nat.reduceLeDiff, Nat.reduceEqDiff, Nat.reduceSub, Nat.reduceMul, reduceCtorEq, hp, hrn]
    have hod : odT S.length (0 :: l) = odF 0 ((0 :: l).drop 0) (minS S.length S.length) := rfl
    have hodl : (odT S.length (0 :: l)).length = S.length := by rw [odT, odF_len, minS_len]
    generalize hode : odT S.length (0 :: l) = od at hN hT hod hodl ⊢
    refine loopL (σ := Nat × List Int) (fun x => ⟨[(0, grP S P), (3, .ref 15 0), (5, .sl (encK 0 :: l.map encK)), (39, .sl (encK 0 :: l.map encK)), (40, .int .i64 ((l.length + 1 : Nat) : Int)), (41, .int .i64 (x.1 : Int))], [(10, .arr 0 1 ((minS S.length S.length).map encN)), (13, .arr 0 1 (x.2.map encN)), (15, .box [.hs 10 0 0 S.length, .hs 13 0 0 S.length])]⟩)
      (fun x => x.1 ≤ l.length + 1 ∧ odF x.1 ((0 :: l).drop x.1) x.2 = od ∧ x.2.length = S.length) (fun x => l.length + 1 - x.1) (0, minS S.length S.length) (by simp (config := {maxSteps := 2000000, implicitDefEqProofs := false}) (disch := omega) only [↓reduceIte, go_sem, Int.reduceToNat, Nat.reduceAdd, Nat.reduceLeDiff, Nat.reduceEqDiff, Nat.reduceSub, Nat.reduceMul, reduceCtorEq, hrn]; rfl) ⟨Nat.zero_le _, hod.symm, minS_len⟩ ?_
    rintro ⟨t, cur⟩ ⟨q1, q2, q3⟩
    simp only at q1 q2 q3
    simp (config := {maxSteps := 2000000, implicitDefEqProofs := false}) (disch := omega) only [↓reduceIte, go_sem, Int.reduceToNat, Nat.reduceAdd, Nat.reduceLeDiff, Nat.reduceEqDiff, Nat.reduceSub, Nat.reduceMul, reduceCtorEq, hp, hrn]
    refine ifD (fun c2 => ?_) (fun c2 => ?_)
    · have hgl : (0 :: l)[t]? = some ((0 :: l).getD t 0) := getD0 (by simp; omega)
      have hgm : (encK 0 :: l.map encK)[t]? = some [AV.int .i64 (((0 :: l).getD t 0 : Nat) : Int)] := by
        have : ((0 :: l).map encK)[t]? = some (encK ((0 :: l).getD t 0)) := by rw [List.getElem?_map, hgl]; rfl
        exact this
      have hin : (0 :: l).getD t 0 < S.length := by
        rcases List.mem_cons.1 (List.mem_of_getElem? hgl) with h | h
        · omega
        · exact hl _ h
      have hdr : (0 :: l).drop t = (0 :: l).getD t 0 :: (0 :: l).drop (t + 1) := drop_get hgl
      generalize (0 :: l).getD t 0 = i at hgm hin hdr
      have hcu := intD (l := cur) (k := i) (by omega)
      simp (config := {maxSteps := 2000000, implicitDefEqProofs := false}) (disch := omega) only [↓reduceIte, go_sem, Int.reduceToNat, Nat.reduceAdd, Nat.reduceLeDiff, Nat.reduceEqDiff, Nat.reduceSub, Nat.reduceMul, reduceCtorEq, hp, hrn, hgm, hcu, encN]
      refine ⟨(t + 1, cur.set i (t : Int)), ?_, ⟨by omega, ?_, by simp [q3]⟩, by simp only; omega⟩
      · simp [List.map_set, encN]
      · rw [hdr] at q2
        exact q2
    · have hte : t = l.length + 1 := by omega
      rw [hte] at q2
      rw [List.drop_eq_nil_of_le (by simp)] at q2
      have q2 : cur = od := q2
      rw [q2]
      have h0i := intD (l := minS S.length S.length) (k := 0) (by rw [minS_len]; exact h0)
      simp (config := {maxSteps := 2000000, implicitDefEqProofs := false}) (disch := omega) only [↓reduceIte, go_sem, Int.reduceToNat, Nat.reduceAdd, Nat.reduceLeDiff, Nat.reduceEqDiff, Nat.reduceSub, Nat.reduceMul, reduceCtorEq, hp, hrn, h0i, encN]
      have hall : (∀ c ∈ l.map encK, c.length = 1) = True := by simp [encK]
      have hk0 : (encK 0).length = 1 := rfl
      have hlk : (l.map encK).length = l.length := by simp
      refine loopL (σ := Nat) (fun k => ⟨[(0, grP S P), (3, .ref 15 0), (5, .sl (encK 0 :: l.map encK))], [(10, .arr 0 1 ((seqT S.length od P l k).map encN)), (13, .arr 0 1 (od.map encN)), (15, .box [.hs 10 0 0 S.length, .hs 13 0 0 S.length])]⟩) (fun k => k ≤ N) (fun k => N - k) 0 (by simp (config := {maxSteps := 2000000, implicitDefEqProofs := false}) (disch := omega) only [↓reduceIte, go_sem, Int.reduceToNat, Nat.reduceAdd, Nat.reduceLeDiff, Nat.reduceEqDiff, Nat.reduceSub, Nat.reduceMul, reduceCtorEq, hrn]; simp [seqT, List.map_set, encN]) (Nat.zero_le _) ?_
      intro k hk
      simp (config := {maxSteps := 2000000, implicitDefEqProofs := false}) (disch := omega) only [↓reduceIte, go_sem, Int.reduceToNat, Nat.reduceAdd, Nat.reduceLeDiff, Nat.reduceEqDiff, Nat.reduceSub, Nat.reduceMul, reduceCtorEq, hp, hrn, hall, hk0]
      have hcall := C31 S P hs hPl hP (seqT S.length od P l k) od l hodl hll hl (hT k hk)
      have hnx : (roundT od P (seqT S.length od P l k) l).1 = seqT S.length od P l (k + 1) := rfl
      rw [hnx] at hcall
      refine callD hcall ?_
      simp (config := {maxSteps := 2000000, implicitDefEqProofs := false}) (disch := omega) only [↓reduceIte, go_sem, Int.reduceToNat, Nat.reduceAdd, Nat.reduceLeDiff, Nat.reduceEqDiff, Nat.reduceSub, Nat.reduceMul, reduceCtorEq, hp, hrn]
      refine ifL (fun e1 => ?_) (fun e1 => ?_)
      · simp (config := {maxSteps := 2000000, implicitDefEqProofs := false}) (disch := omega) only [↓reduceIte, go_sem, Int.reduceToNat, Nat.reduceAdd, Nat.reduceLeDiff, Nat.reduceEqDiff, Nat.reduceSub, Nat.reduceMul, reduceCtorEq, hp, hrn]
        have hkN : k ≠ N := fun e2 => by rw [e2, hN.2.1] at e1; cases e1
        exact ⟨k + 1, rfl, by omega, by omega⟩
      · have hkN : k = N := by
          rcases Nat.lt_or_ge k N with h | h
          · rw [hN.1 k h] at e1; cases e1
          · omega
        rw [hnx, hkN] at *
        have hfix : seqT S.length od P l (N + 1) = seqT S.length od P l N := hN.2.2
        have hsl2 : (seqT S.length od P l N).length = S.length := by
          have := (hT N (Nat.le_refl _) 0 (Nat.zero_le _)).1.len
          simpa [hodl] using this
        rw [hfix]
        generalize seqT S.length od P l N = fin at hsl2 ⊢
        have h0f := intD (l := fin) (k := 0) (by omega)
        have hti : List.take S.length ((fin.map encN).set 0 [AV.int IntKind.i64 (-1)]) = (fin.set 0 (-1)).map encN := by
          rw [List.take_of_length_le (by simp [hsl2]), List.map_set]; rfl
        have hto : List.take S.length (od.map encN) = od.map encN := List.take_of_length_le (by simp [hodl])
        simp (config := {maxSteps := 2000000, implicitDefEqProofs := false}) (disch := omega) only [↓reduceIte, go_sem, Int.reduceToNat, Nat.reduceAdd, Nat.reduceLeDiff, Nat.reduceEqDiff, Nat.reduceSub, Nat.reduceMul, reduceCtorEq, hp, hrn, h0f, encN, hti, hto]
        exact ⟨rfl, rfl⟩
theorem C9_nil (P : List (List Nat)) : Ctr Try.prog 9 [grP [] P] [] (ret [encTr [] []]) := by
  apply ctr_b A9_ok rfl (Nat.le_of_ble_eq_true rfl)
  unfold A9
  simp only [initL, Nat.reduceAdd]
  have hs : GrOk [] := ⟨fun a b h => by simp at h, by simp, fun a => by simp⟩
  have hp : isP (grP [] P) = true := rfl
  have hrn : ∀ m, ren m (grP [] P) = grP [] P := fun m => by simp only [grP, ren]
  simp (config := {maxSteps := 2000000, implicitDefEqProofs := false}) (disch := omega) only [↓reduceIte, go_sem, Int.reduceToNat, Nat.reduceAdd, Nat.reduceLeDiff, Nat.reduceEqDiff, Nat.reduceSub, Nat.reduceMul, reduceCtorEq, hp, hrn]
  refine callL (C29 [] P) ?_
  simp (config := {maxSteps := 2000000, implicitDefEqProofs := false}) (disch := omega) only [↓reduceIte, go_sem, Int.reduceToNat, Nat.reduceAdd, Nat.reduceLeDiff, Nat.reduceEqDiff, Nat.reduceSub, Nat.reduceMul, reduceCtorEq, hp, hrn]
  refine callL (C29 [] P) ?_
  simp (config := {maxSteps := 2000000, implicitDefEqProofs := false}) (disch := omega) only [↓reduceIte, go_sem, Int.reduceToNat, Nat.reduceAdd, Nat.reduceLeDiff, Nat.reduceEqDiff, Nat.reduceSub, Nat.reduceMul, reduceCtorEq, hp, hrn]
  refine accL (by kernel_rfl) ?_
  simp (config := {maxSteps := 2000000, implicitDefEqProofs := false}) (disch := omega) only [↓reduceIte, go_sem, Int.reduceToNat, Nat.reduceAdd, Nat.reduceLeDiff, Nat.reduceEqDiff, Nat.reduceSub, Nat.reduceMul, reduceCtorEq, hp, hrn, List.replicate_zero]
  refine loopL (σ := Unit) (fun _ => ⟨[(0, grP [] P), (3, .ref 15 0), (20, .int .i64 0), (21, .int .i64 0)], [(10, .arr 0 1 []), (13, .arr 0 1 []), (15, .box [.hs 10 0 0 0, .hs 13 0 0 0])]⟩) (fun _ => True) (fun _ => 0) () (by simp (config := {maxSteps := 2000000, implicitDefEqProofs := false}) (disch := omega) only [↓reduceIte, go_sem, Int.reduceToNat, Nat.reduceAdd, Nat.reduceLeDiff, Nat.reduceEqDiff, Nat.reduceSub, Nat.reduceMul, reduceCtorEq, hrn, List.replicate_zero]; rfl) trivial ?_
  rintro _ _
  simp (config := {maxSteps := 2000000, implicitDefEqProofs := false}) (disch := omega) only [↓reduceIte, go_sem, Int.reduceToNat, Nat.reduceAdd, Nat.reduceLeDiff, Nat.reduceEqDiff, Nat.reduceSub, Nat.reduceMul, reduceCtorEq, hp, hrn]
  refine callL (C30 [] P hs) ?_
  have ho : orderP [] = [] := rfl
  simp (config := {maxSteps := 2000000, implicitDefEqProofs := false}) (disch := omega) only [↓reduceIte, go_sem, Int.reduceToNat, Nat.reduceAdd, Nat.reduceLeDiff, Nat.reduceEqDiff, Nat.reduceSub, Nat.reduceMul, reduceCtorEq, hp, hrn, ho]
  refine loopL (σ := Unit) (fun _ => ⟨[(0, grP [] P), (3, .ref 15 0), (5, .sl []), (39, .sl []), (40, .int .i64 0), (41, .int .i64 0)], [(10, .arr 0 1 []), (13, .arr 0 1 []), (15, .box [.hs 10 0 0 0, .hs 13 0 0 0])]⟩) (fun _ => True) (fun _ => 0) () (by simp (config := {maxSteps := 2000000, implicitDefEqProofs := false}) (disch := omega) only [↓reduceIte, go_sem, Int.reduceToNat, Nat.reduceAdd, Nat.reduceLeDiff, Nat.reduceEqDiff, Nat.reduceSub, Nat.reduceMul, reduceCtorEq, hrn]; rfl) trivial ?_
  rintro _ _
  simp (config := {maxSteps := 2000000, implicitDefEqProofs := false}) (disch := omega) only [↓reduceIte, go_sem, Int.reduceToNat, Nat.reduceAdd, Nat.reduceLeDiff, Nat.reduceEqDiff, Nat.reduceSub, Nat.reduceMul, reduceCtorEq, hp, hrn]
  exact ⟨rfl, rfl⟩
end Go.Proofs.Yticjemfgbfphdaa.X
/- dom: all below a block. -/
namespace Go.Proofs.Yticjemfgbfphdaa.X
open Go Go.AM Go.Proofs
attribute [local go_sem ↓] w_skip w_lbl w_ops w_draw w_pre w_post w_alt w_seq w_cond w_block w_join w_loop w_exit w_ret w_scope w_rfunc l_nil l_cons th_n th_e th_r bk_n bk_r bk_e t_nil t_it t_call i_nil i_one i_grp s_nil s_cons c_call e_mv e_nil e_dyn e_nilb e_frz o_mov o_bin o_eq o_un o_conv o_len o_slen o_idx o_aix o_fad o_load o_store o_boxp o_boxo o_boxm o_alloc o_allocm o_alloca o_nilarr o_build o_bslp o_bslo o_slc o_sslc o_slc3 o_sidx o_mkfn o_mkmv o_vidx o_ext o_pick o_callf o_callb o_appd o_clear o_mxn o_field o_nilc o_make o_makeb o_buildm o_boxg o_mkif o_tass o_eqs o_callo o_callx k_int k_str k_bool k_grb k_grt k_some k_none k_arr k_lens k_lenf k_lenh k_lenb k_idxb k_idxs k_idxf k_idxh k_ld k_loadp k_loadr k_loade k_storer k_storee k_oin k_ois k_slcs k_slcf k_slch k_slc3s k_slc3f k_slc3h k_app2 k_apps k_appf k_apph k_cals k_cald k_cali k_cnb k_cna k_esn k_esc k_efn k_efc k_esh b_add b_sub b_mul b_quo b_rem b_and b_or b_xor b_andNot b_eql b_neq b_lss b_leq b_gtr b_geq b_shl b_shr b_seq b_sne b_slt b_sad q_bool q_str q_nil q_nilf u_not u_neg u_xor f_ret f_nor v_r v_c v_g v_reg v_ob v_set v_put v_so v_sn v_pn v_pc g_nil d_nil p_nil m_mv m_fr z_nil z_cons z_an z_ac g_cons d_cons p_cons y_mov y_bin y_eq y_un y_conv y_len y_slen y_idx y_aix y_fad y_load y_store y_boxp y_boxo y_boxm y_alloc y_alloca y_allocm y_nilarr y_build y_bslp y_bslo y_slc y_sslc y_slc3 y_sidx y_mkfn y_ext y_pick y_callf y_callb y_appd y_clear y_mxn y_field y_nilc y_make y_makeb y_buildm y_boxg y_mkif y_tass y_eqs y_callo y_mkmv y_callx y_vidx nb_if
attribute [local go_sem] nbd VL_mk VL2_mk If_t If_f If_not If_and If_or If_dt If_df If_et If_ef If_ne Ck_t Ck_h Opt_s ld_a ld_c lm_a lm_c renL ren keepR renA idxM invL getObs mapOb renOb allNone putAll fzR fzO fz fzL fzOb fzB frzOk upFrom mapR resOne resA cellsOf oneA oneAL isP isPL okSt kRows kParts fillA setAt bor bor0 bor1 bor2 borC borI key0 key1 key2 keysA fillM cellsM cellM unif ptrA ifOk kPartsM getObsM allNoneM zipU scal0 scalar eqC evNil evNilF memK keyX hideM xbor scal1 scalX scalOb bndA mkMag showM lendV hideV hideR hideOb hideL hideO showL backO noneO mapA List.map_cons List.map_nil List.cons_append List.nil_append List.append_nil List.drop_zero List.drop_succ_cons List.drop_nil List.take_succ_cons List.take_zero List.take_nil List.length_cons List.length_nil List.length_map List.getElem?_map Option.map_some Option.map_none Int.toNat_natCast Int.toNat_zero Int.toNat_one Int.natCast_nonneg List.flatMap_cons List.flatMap_nil List.all_cons List.all_nil List.any_cons List.any_nil Bool.or_false Bool.false_or Bool.or_true Bool.true_or Bool.and_true Bool.true_and Bool.and_false Bool.false_and Bool.not_true Bool.not_false beq_self_eq_true nb_self all_nil List.forall_mem_cons tk_map tk_app bs_self bs_dec bq_t bq_f Bool.not_not decide_true decide_false Bool.not_not and_self and_true true_and eq_self List.reverse_cons List.reverse_nil List.getElem?_cons_zero List.getElem?_cons_succ cond_true cond_false List.set_cons_zero List.set_cons_succ Nat.zero_add Nat.add_zero if_true if_false ite_true ite_false implies_true wrap64 wrap8
open Go.Bits
set_option linter.unusedVariables false
set_option linter.unusedSimpArgs false
set_option maxRecDepth 10000
theorem C37 (ver off len : Nat) (xs : List (List AV)) (ys : List Nat) (h : off + len = xs.length) (hl : len + ys.length < 2000000) : Ctr Try.prog 37 [.sl (ys.map encK), .ref 0 0] [.box [.hs 1 ver off len], .arr ver 1 xs]
    (retO [] [.box [.hs 1 (ver + 1) 0 (len + ys.length)], .arr (ver + 1) 1 (xs.drop off ++ ys.map encK)]) := by
  apply ctr_b A37_ok rfl (Nat.le_of_ble_eq_true rfl)
  unfold A37
  simp only [initL, Nat.reduceAdd]
  have hall : (∀ c ∈ ys.map encK, c.length = 1) = True := by simp [encK]
  have hc : ((len + ys.length : Nat) : Int) * ((8 : Nat) : Int) ≤ 70368744177664 := by omega
  simp (config := {maxSteps := 2000000, implicitDefEqProofs := false}) (disch := omega) only [↓reduceIte, go_sem, Int.reduceToNat, Nat.reduceAdd, Nat.reduceLeDiff, Nat.reduceEqDiff, Nat.reduceSub, Nat.reduceMul, reduceCtorEq, hall, hc, h]
  simp [retO]
def stepW (id od : List Int) (x : List Nat × List Bool) : List Nat × List Bool := match x.1 with
  | [] => x
  | k :: r => (r ++ kidsL id od (k : Int), addS x.2 (k : Int))
def iterW (id od : List Int) (x : List Nat × List Bool) : Nat → List Nat × List Bool
  | 0 => x
  | k + 1 => stepW id od (iterW id od x k)
theorem iterW_nil {id od : List Int} {x : List Nat × List Bool} {k : Nat} (h : (iterW id od x k).1 = []) : ∀ j, iterW id od x (k + j) = iterW id od x k
  | 0 => rfl
  | j + 1 => by
    show stepW id od (iterW id od x (k + j)) = _
    rw [iterW_nil h j]
    unfold stepW
    rw [h]
theorem stepW_len {id od : List Int} {x : List Nat × List Bool} : (stepW id od x).2.length = x.2.length := by
  unfold stepW
  split
  · rfl
  · exact addS_len _ _
theorem iterW_len {id od : List Int} {x : List Nat × List Bool} : ∀ k, (iterW id od x k).2.length = x.2.length
  | 0 => rfl
  | k + 1 => by simp only [iterW]; rw [stepW_len, iterW_len k]
def startW (od : List Int) (n i : Nat) : List Nat × List Bool := (if inT od (i : Int) = true then [i] else [], noneB n)
set_option maxHeartbeats 1000000 in
theorem C15 (id od : List Int) (hl : id.length = od.length) (hll : id.length < 1000000) (i : Nat) (N : Nat) (hN : (iterW id od (startW od id.length i) N).1 = []) (hb : ∀ k, k ≤ N → (iterW id od (startW od id.length i) k).1.length < 1000000) :
    Ctr Try.prog 15 [encTr id od, .int .i64 (i : Int)] [] (ret [.rp [.int .i64 (id.length : Int), .sl (encWs (iterW id od (startW od id.length i) N).2)]]) := by
  apply ctr_b A15_ok rfl (Nat.le_of_ble_eq_true rfl)
  unfold A15
  simp only [initL, Nat.reduceAdd, encTr]
  simp (config := {maxSteps := 2000000, implicitDefEqProofs := false}) (disch := omega) only [↓reduceIte, go_sem, Int.reduceToNat, Nat.reduceAdd, Nat.reduceLeDiff, Nat.reduceEqDiff, Nat.reduceSub, Nat.reduceMul, reduceCtorEq]
  have hnew := New' (id.length : Int) (by omega)
  rw [Int.toNat_natCast] at hnew
  refine callD hnew ?_
  simp (config := {maxSteps := 2000000, implicitDefEqProofs := false}) (disch := omega) only [↓reduceIte, go_sem, Int.reduceToNat, Nat.reduceAdd, Nat.reduceLeDiff, Nat.reduceEqDiff, Nat.reduceSub, Nat.reduceMul, reduceCtorEq]
  refine callL (C35 id od (i : Int)) ?_
  simp (config := {maxSteps := 2000000, implicitDefEqProofs := false}) (disch := omega) only [↓reduceIte, go_sem, Int.reduceToNat, Nat.reduceAdd, Nat.reduceLeDiff, Nat.reduceEqDiff, Nat.reduceSub, Nat.reduceMul, reduceCtorEq]
  have hcl := C37 0 0 0 [] [i] rfl (by simp)
  simp only [List.map_cons, List.map_nil, List.length_cons, List.length_nil, List.drop_nil, List.nil_append, Nat.zero_add] at hcl
  refine ifL (fun e => ?_) (fun e => ?_)
  · simp (config := {maxSteps := 2000000, implicitDefEqProofs := false}) (disch := omega) only [↓reduceIte, go_sem, Int.reduceToNat, Nat.reduceAdd, Nat.reduceLeDiff, Nat.reduceEqDiff, Nat.reduceSub, Nat.reduceMul, reduceCtorEq, encK]
    refine callD hcl ?_
    simp (config := {maxSteps := 2000000, implicitDefEqProofs := false}) (disch := omega) only [↓reduceIte, go_sem, Int.reduceToNat, Nat.reduceAdd, Nat.reduceLeDiff, Nat.reduceEqDiff, Nat.reduceSub, Nat.reduceMul, reduceCtorEq]
    have hs0 : iterW id od (startW od id.length i) 0 = ([i], noneB id.length) := by simp [iterW, startW, e]
    refine loopL (σ := Nat × Nat × Nat × List (List AV)) (fun x => ⟨[(5, .ref 60 0), (6, .ref 6 0), (7, .fn 37 [.ref 6 0]), (8, .mfn 16 [.rp [.sl (id.map encN), .sl (od.map encN)]])], [(6, .box [.hs 1006 x.2.1 x.2.2.1 (iterW id od (startW od id.length i) x.1).1.length]), (60, .box [.int .i64 (id.length : Int), .hs 61 0 0 (nw id.length)]), (61, .arr 0 1 (encWs (iterW id od (startW od id.length i) x.1).2)), (1006, .arr x.2.1 1 x.2.2.2)]⟩)
      (fun x => x.1 ≤ N ∧ x.2.2.1 + (iterW id od (startW od id.length i) x.1).1.length = x.2.2.2.length ∧ x.2.2.2.drop x.2.2.1 = (iterW id od (startW od id.length i) x.1).1.map encK) (fun x => N - x.1) (0, 1, 0, [encK i]) (by simp (config := {maxSteps := 2000000, implicitDefEqProofs := false}) (disch := omega) only [↓reduceIte, go_sem, Int.reduceToNat, Nat.reduceAdd, Nat.reduceLeDiff, Nat.reduceEqDiff, Nat.reduceSub, Nat.reduceMul, reduceCtorEq, hs0]) ⟨Nat.zero_le _, by rw [hs0]; rfl, by rw [hs0]; rfl⟩ ?_
    rintro ⟨k, ver, off, xs⟩ ⟨g1, g2, g3⟩
    simp only at g1 g2 g3
    have hbl := iterW_len (id := id) (od := od) (x := startW od id.length i) k
    have hsb : (startW od id.length i).2.length = id.length := noneB_len
    rw [hsb] at hbl
    have hend : (iterW id od (startW od id.length i) k).1 = [] → iterW id od (startW od id.length i) N = iterW id od (startW od id.length i) k := fun h => by
      have := iterW_nil h (N - k)
      rwa [show k + (N - k) = N by omega] at this
    have hkN : (iterW id od (startW od id.length i) k).1 ≠ [] → k < N := fun h => by
      rcases Nat.lt_or_ge k N with h' | h'
      · exact h'
      · exact absurd (by rw [show k = N by omega]; exact hN) h
    have hbk : k + 1 ≤ N → (iterW id od (startW od id.length i) (k + 1)).1.length < 1000000 := fun h => hb _ h
    have hnext : iterW id od (startW od id.length i) (k + 1) = stepW id od (iterW id od (startW od id.length i) k) := rfl
    generalize iterW id od (startW od id.length i) k = y at g2 g3 hbl hend hkN hnext ⊢
    obtain ⟨W, bs⟩ := y
    simp only at g2 g3 hbl hend hkN
    simp (config := {maxSteps := 2000000, implicitDefEqProofs := false}) (disch := omega) only [↓reduceIte, go_sem, Int.reduceToNat, Nat.reduceAdd, Nat.reduceLeDiff, Nat.reduceEqDiff, Nat.reduceSub, Nat.reduceMul, reduceCtorEq]
    refine ifD (fun c => ?_) (fun c => ?_)
    · have hne : W ≠ [] := fun e => by rw [e] at c; simp at c
      have hk1 := hkN hne
      have hWl : 0 < W.length := List.length_pos_iff.2 hne
      have hx0 : xs[off]? = some [.int .i64 (W.getD 0 0 : Int)] := by
        have h1 : (xs.drop off)[0]? = xs[off]? := by rw [List.getElem?_drop, Nat.add_zero]
        rw [← h1, g3, List.getElem?_map, getD0 hWl]
        rfl
      have hWe : W = W.getD 0 0 :: W.drop 1 := by
        have := drop_get (getD0 hWl)
        rwa [List.drop_zero] at this
      have hst : stepW id od (W, bs) = (W.drop 1 ++ kidsL id od (W.getD 0 0 : Int), addS bs (W.getD 0 0 : Int)) := by
        generalize W.getD 0 0 = w at hWe ⊢
        rw [hWe]
        simp [stepW]
      rw [hst] at hnext
      have hbk := hbk hk1
      rw [hnext] at hbk
      simp only [List.length_append, List.length_drop] at hbk
      have hx1 : xs.drop (off + 1) = (W.drop 1).map encK := by
        have := congrArg (List.drop 1) g3
        rwa [List.drop_drop, ← List.map_drop] at this
      generalize W.getD 0 0 = w at hx0 hnext hbk
      have hcl2 := C37 ver (off + 1) (W.length - 1) xs (kidsL id od (w : Int)) (by omega) (by omega)
      simp (config := {maxSteps := 2000000, implicitDefEqProofs := false}) (disch := omega) only [↓reduceIte, go_sem, Int.reduceToNat, Nat.reduceAdd, Nat.reduceLeDiff, Nat.reduceEqDiff, Nat.reduceSub, Nat.reduceMul, reduceCtorEq, hx0]
      refine callD (Add' hbl (w : Int) (by omega)) ?_
      simp (config := {maxSteps := 2000000, implicitDefEqProofs := false}) (disch := omega) only [↓reduceIte, go_sem, Int.reduceToNat, Nat.reduceAdd, Nat.reduceLeDiff, Nat.reduceEqDiff, Nat.reduceSub, Nat.reduceMul, reduceCtorEq, hx0]
      refine callL (C16 id od hl hll (w : Int)) ?_
      simp (config := {maxSteps := 2000000, implicitDefEqProofs := false}) (disch := omega) only [↓reduceIte, go_sem, Int.reduceToNat, Nat.reduceAdd, Nat.reduceLeDiff, Nat.reduceEqDiff, Nat.reduceSub, Nat.reduceMul, reduceCtorEq, hx0]
      refine callD hcl2 ?_
      simp (config := {maxSteps := 2000000, implicitDefEqProofs := false}) (disch := omega) only [↓reduceIte, go_sem, Int.reduceToNat, Nat.reduceAdd, Nat.reduceLeDiff, Nat.reduceEqDiff, Nat.reduceSub, Nat.reduceMul, reduceCtorEq]
      refine ⟨(k + 1, ver + 1, 0, xs.drop (off + 1) ++ (kidsL id od (w : Int)).map encK), by rw [hnext]; simp, ⟨by omega, ?_, ?_⟩, by simp only; omega⟩
      · rw [hnext, hx1]; simp
      · rw [hnext, hx1]; simp
    · have hW0 : W = [] := List.eq_nil_of_length_eq_zero (by omega)
      have hfin := hend hW0
      have hew := encWs_take bs
      rw [hbl] at hew
      rw [hfin]
      simp (config := {maxSteps := 2000000, implicitDefEqProofs := false}) (disch := omega) only [↓reduceIte, go_sem, Int.reduceToNat, Nat.reduceAdd, Nat.reduceLeDiff, Nat.reduceEqDiff, Nat.reduceSub, Nat.reduceMul, reduceCtorEq, hew]
      exact ⟨rfl, rfl⟩
  · simp (config := {maxSteps := 2000000, implicitDefEqProofs := false}) (disch := omega) only [↓reduceIte, go_sem, Int.reduceToNat, Nat.reduceAdd, Nat.reduceLeDiff, Nat.reduceEqDiff, Nat.reduceSub, Nat.reduceMul, reduceCtorEq]
    have hs0 : iterW id od (startW od id.length i) 0 = ([], noneB id.length) := by simp [iterW, startW, e]
    refine loopL (σ := Nat × Nat × Nat × List (List AV)) (fun x => ⟨[(5, .ref 60 0), (6, .ref 6 0), (7, .fn 37 [.ref 6 0]), (8, .mfn 16 [.rp [.sl (id.map encN), .sl (od.map encN)]])], [(6, .box [.hs 1006 x.2.1 x.2.2.1 (iterW id od (startW od id.length i) x.1).1.length]), (60, .box [.int .i64 (id.length : Int), .hs 61 0 0 (nw id.length)]), (61, .arr 0 1 (encWs (iterW id od (startW od id.length i) x.1).2)), (1006, .arr x.2.1 1 x.2.2.2)]⟩)
      (fun x => x.1 ≤ N ∧ x.2.2.1 + (iterW id od (startW od id.length i) x.1).1.length = x.2.2.2.length ∧ x.2.2.2.drop x.2.2.1 = (iterW id od (startW od id.length i) x.1).1.map encK) (fun x => N - x.1) (0, 0, 0, []) (by simp (config := {maxSteps := 2000000, implicitDefEqProofs := false}) (disch := omega) only [↓reduceIte, go_sem, Int.reduceToNat, Nat.reduceAdd, Nat.reduceLeDiff, Nat.reduceEqDiff, Nat.reduceSub, Nat.reduceMul, reduceCtorEq, hs0]) ⟨Nat.zero_le _, by rw [hs0]; rfl, by rw [hs0]; rfl⟩ ?_
    rintro ⟨k, ver, off, xs⟩ ⟨g1, g2, g3⟩
    simp only at g1 g2 g3
    have hbl := iterW_len (id := id) (od := od) (x := startW od id.length i) k
    have hsb : (startW od id.length i).2.length = id.length := noneB_len
    rw [hsb] at hbl
    have hend : (iterW id od (startW od id.length i) k).1 = [] → iterW id od (startW od id.length i) N = iterW id od (startW od id.length i) k := fun h => by
      have := iterW_nil h (N - k)
      rwa [show k + (N - k) = N by omega] at this
    have hkN : (iterW id od (startW od id.length i) k).1 ≠ [] → k < N := fun h => by
      rcases Nat.lt_or_ge k N with h' | h'
      · exact h'
      · exact absurd (by rw [show k = N by omega]; exact hN) h
    have hbk : k + 1 ≤ N → (iterW id od (startW od id.length i) (k + 1)).1.length < 1000000 := fun h => hb _ h
    have hnext : iterW id od (startW od id.length i) (k + 1) = stepW id od (iterW id od (startW od id.length i) k) := rfl
    generalize iterW id od (startW od id.length i) k = y at g2 g3 hbl hend hkN hnext ⊢
    obtain ⟨W, bs⟩ := y
    simp only at g2 g3 hbl hend hkN
    simp (config := {maxSteps := 2000000, implicitDefEqProofs := false}) (disch := omega) only [↓reduceIte, go_sem, Int.reduceToNat, Nat.reduceAdd, Nat.reduceLeDiff, Nat.reduceEqDiff, Nat.reduceSub, Nat.reduceMul, reduceCtorEq]
    refine ifD (fun c => ?_) (fun c => ?_)
    · have hne : W ≠ [] := fun e => by rw [e] at c; simp at c
      have hk1 := hkN hne
      have hWl : 0 < W.length := List.length_pos_iff.2 hne
      have hx0 : xs[off]? = some [.int .i64 (W.getD 0 0 : Int)] := by
        have h1 : (xs.drop off)[0]? = xs[off]? := by rw [List.getElem?_drop, Nat.add_zero]
        rw [← h1, g3, List.getElem?_map, getD0 hWl]
        rfl
      have hWe : W = W.getD 0 0 :: W.drop 1 := by
        have := drop_get (getD0 hWl)
        rwa [List.drop_zero] at this
      have hst : stepW id od (W, bs) = (W.drop 1 ++ kidsL id od (W.getD 0 0 : Int), addS bs (W.getD 0 0 : Int)) := by
        generalize W.getD 0 0 = w at hWe ⊢
        rw [hWe]
        simp [stepW]
      rw [hst] at hnext
      have hbk := hbk hk1
      rw [hnext] at hbk
      simp only [List.length_append, List.length_drop] at hbk
      have hx1 : xs.drop (off + 1) = (W.drop 1).map encK := by
        have := congrArg (List.drop 1) g3
        rwa [List.drop_drop, ← List.map_drop] at this
      generalize W.getD 0 0 = w at hx0 hnext hbk
      have hcl2 := C37 ver (off + 1) (W.length - 1) xs (kidsL id od (w : Int)) (by omega) (by omega)
      simp (config := {maxSteps := 2000000, implicitDefEqProofs := false}) (disch := omega) only [↓reduceIte, go_sem, Int.reduceToNat, Nat.reduceAdd, Nat.reduceLeDiff, Nat.reduceEqDiff, Nat.reduceSub, Nat.reduceMul, reduceCtorEq, hx0]
      refine callD (Add' hbl (w : Int) (by omega)) ?_
      simp (config := {maxSteps := 2000000, implicitDefEqProofs := false}) (disch := omega) only [↓reduceIte, go_sem, Int.reduceToNat, Nat.reduceAdd, Nat.reduceLeDiff, Nat.reduceEqDiff, Nat.reduceSub, Nat.reduceMul, reduceCtorEq, hx0]
      refine callL (C16 id od hl hll (w : Int)) ?_
      simp (config := {maxSteps := 2000000, implicitDefEqProofs := false}) (disch := omega) only [↓reduceIte, go_sem, Int.reduceToNat, Nat.reduceAdd, Nat.reduceLeDiff, Nat.reduceEqDiff, Nat.reduceSub, Nat.reduceMul, reduceCtorEq, hx0]
      refine callD hcl2 ?_
      simp (config := {maxSteps := 2000000, implicitDefEqProofs := false}) (disch := omega) only [↓reduceIte, go_sem, Int.reduceToNat, Nat.reduceAdd, Nat.reduceLeDiff, Nat.reduceEqDiff, Nat.reduceSub, Nat.reduceMul, reduceCtorEq]
      refine ⟨(k + 1, ver + 1, 0, xs.drop (off + 1) ++ (kidsL id od (w : Int)).map encK), by rw [hnext]; simp, ⟨by omega, ?_, ?_⟩, by simp only; omega⟩
      · rw [hnext, hx1]; simp
      · rw [hnext, hx1]; simp
    · have hW0 : W = [] := List.eq_nil_of_length_eq_zero (by omega)
      have hfin := hend hW0
      have hew := encWs_take bs
      rw [hbl] at hew
      rw [hfin]
      simp (config := {maxSteps := 2000000, implicitDefEqProofs := false}) (disch := omega) only [↓reduceIte, go_sem, Int.reduceToNat, Nat.reduceAdd, Nat.reduceLeDiff, Nat.reduceEqDiff, Nat.reduceSub, Nat.reduceMul, reduceCtorEq, hew]
      exact ⟨rfl, rfl⟩
end Go.Proofs.Yticjemfgbfphdaa.X
/- The reference's guard: it answers. -/
namespace Go.Proofs.Yticjemfgbfphdaa.X
open Go Go.AM Go.Proofs
attribute [local go_sem ↓] w_skip w_lbl w_ops w_draw w_pre w_post w_alt w_seq w_cond w_block w_join w_loop w_exit w_ret w_scope w_rfunc l_nil l_cons th_n th_e th_r bk_n bk_r bk_e t_nil t_it t_call i_nil i_one i_grp s_nil s_cons c_call e_mv e_nil e_dyn e_nilb e_frz o_mov o_bin o_eq o_un o_conv o_len o_slen o_idx o_aix o_fad o_load o_store o_boxp o_boxo o_boxm o_alloc o_allocm o_alloca o_nilarr o_build o_bslp o_bslo o_slc o_sslc o_slc3 o_sidx o_mkfn o_mkmv o_vidx o_ext o_pick o_callf o_callb o_appd o_clear o_mxn o_field o_nilc o_make o_makeb o_buildm o_boxg o_mkif o_tass o_eqs o_callo o_callx k_int k_str k_bool k_grb k_grt k_some k_none k_arr k_lens k_lenf k_lenh k_lenb k_idxb k_idxs k_idxf k_idxh k_ld k_loadp k_loadr k_loade k_storer k_storee k_oin k_ois k_slcs k_slcf k_slch k_slc3s k_slc3f k_slc3h k_app2 k_apps k_appf k_apph k_cals k_cald k_cali k_cnb k_cna k_esn k_esc k_efn k_efc k_esh b_add b_sub b_mul b_quo b_rem b_and b_or b_xor b_andNot b_eql b_neq b_lss b_leq b_gtr b_geq b_shl b_shr b_seq b_sne b_slt b_sad q_bool q_str q_nil q_nilf u_not u_neg u_xor f_ret f_nor v_r v_c v_g v_reg v_ob v_set v_put v_so v_sn v_pn v_pc g_nil d_nil p_nil m_mv m_fr z_nil z_cons z_an z_ac g_cons d_cons p_cons y_mov y_bin y_eq y_un y_conv y_len y_slen y_idx y_aix y_fad y_load y_store y_boxp y_boxo y_boxm y_alloc y_alloca y_allocm y_nilarr y_build y_bslp y_bslo y_slc y_sslc y_slc3 y_sidx y_mkfn y_ext y_pick y_callf y_callb y_appd y_clear y_mxn y_field y_nilc y_make y_makeb y_buildm y_boxg y_mkif y_tass y_eqs y_callo y_mkmv y_callx y_vidx nb_if
attribute [local go_sem] nbd VL_mk VL2_mk If_t If_f If_not If_and If_or If_dt If_df If_et If_ef If_ne Ck_t Ck_h Opt_s ld_a ld_c lm_a lm_c renL ren keepR renA idxM invL getObs mapOb renOb allNone putAll fzR fzO fz fzL fzOb fzB frzOk upFrom mapR resOne resA cellsOf oneA oneAL isP isPL okSt kRows kParts fillA setAt bor bor0 bor1 bor2 borC borI key0 key1 key2 keysA fillM cellsM cellM unif ptrA ifOk kPartsM getObsM allNoneM zipU scal0 scalar eqC evNil evNilF memK keyX hideM xbor scal1 scalX scalOb bndA mkMag showM lendV hideV hideR hideOb hideL hideO showL backO noneO mapA List.map_cons List.map_nil List.cons_append List.nil_append List.append_nil List.drop_zero List.drop_succ_cons List.drop_nil List.take_succ_cons List.take_zero List.take_nil List.length_cons List.length_nil List.length_map List.getElem?_map Option.map_some Option.map_none Int.toNat_natCast Int.toNat_zero Int.toNat_one Int.natCast_nonneg List.flatMap_cons List.flatMap_nil List.all_cons List.all_nil List.any_cons List.any_nil Bool.or_false Bool.false_or Bool.or_true Bool.true_or Bool.and_true Bool.true_and Bool.and_false Bool.false_and Bool.not_true Bool.not_false beq_self_eq_true nb_self all_nil List.forall_mem_cons tk_map tk_app bs_self bs_dec bq_t bq_f Bool.not_not decide_true decide_false Bool.not_not and_self and_true true_and eq_self List.reverse_cons List.reverse_nil List.getElem?_cons_zero List.getElem?_cons_succ cond_true cond_false List.set_cons_zero List.set_cons_succ Nat.zero_add Nat.add_zero if_true if_false ite_true ite_false implies_true wrap64 wrap8
set_option linter.unusedVariables false
set_option linter.unusedSimpArgs false
set_option maxRecDepth 10000
def anyR : List AV → List Ob → Prop := fun r o => (∃ b, r = [.bool b]) ∧ o = []
set_option maxHeartbeats 1000000 in
theorem C6 (f : Fnc) (hB : f.blocks.length ≤ 9223372036854775807) (hc : ∀ b ∈ f.blocks, b.code.length ≤ 9223372036854775807 ∧ ∀ i ∈ b.code, i.labels.length ≤ 9223372036854775807) : Ctr Try.prog 6 [.agg (encFn f)] [] anyR := by
  apply ctr_b A6_ok rfl (Nat.le_of_ble_eq_true rfl)
  unfold A6
  simp only [initL, Nat.reduceAdd]
  simp (config := {maxSteps := 2000000, implicitDefEqProofs := false}) (disch := omega) only [↓reduceIte, go_sem, Int.reduceToNat, Nat.reduceAdd, Nat.reduceLeDiff, Nat.reduceEqDiff, Nat.reduceSub, Nat.reduceMul, reduceCtorEq, encFn]
  refine loopL (σ := Int × Nat) (fun x => ⟨[(1, .rp (encFn f)), (3, .int .i64 x.1), (4, .int .i64 (x.2 : Int))], []⟩) (fun x => x.2 ≤ f.blocks.length) (fun x => f.blocks.length - x.2) (_, 0) (by simp (config := {maxSteps := 2000000, implicitDefEqProofs := false}) (disch := omega) only [↓reduceIte, go_sem, Int.reduceToNat, Nat.reduceAdd, Nat.reduceLeDiff, Nat.reduceEqDiff, Nat.reduceSub, Nat.reduceMul, reduceCtorEq, encFn]; rfl) (Nat.zero_le _) ?_
  rintro ⟨n, i⟩ h1
  simp only at h1
  simp (config := {maxSteps := 2000000, implicitDefEqProofs := false}) (disch := omega) only [↓reduceIte, go_sem, Int.reduceToNat, Nat.reduceAdd, Nat.reduceLeDiff, Nat.reduceEqDiff, Nat.reduceSub, Nat.reduceMul, reduceCtorEq, encFn]
  refine ifD (fun c => ?_) (fun c => ?_)
  · have hb : f.blocks[i]? = some f.blocks[i] := List.getElem?_eq_getElem (by omega)
    have hbm : f.blocks[i] ∈ f.blocks := List.getElem_mem _
    have hcb := hc _ hbm
    generalize f.blocks[i] = b at hb hcb
    simp (config := {maxSteps := 2000000, implicitDefEqProofs := false}) (disch := omega) only [↓reduceIte, go_sem, Int.reduceToNat, Nat.reduceAdd, Nat.reduceLeDiff, Nat.reduceEqDiff, Nat.reduceSub, Nat.reduceMul, reduceCtorEq, encFn, hb, encBk]
    refine accL (by kernel_rfl) ?_
    simp (config := {maxSteps := 2000000, implicitDefEqProofs := false}) (disch := omega) only [↓reduceIte, go_sem, Int.reduceToNat, Nat.reduceAdd, Nat.reduceLeDiff, Nat.reduceEqDiff, Nat.reduceSub, Nat.reduceMul, reduceCtorEq, encFn, hb, encBk]
    refine loopL (σ := Int × Nat) (fun x => ⟨[(1, .rp (encFn f)), (3, .int .i64 x.1), (4, .int .i64 (i : Int)), (5, .int .i64 (x.2 : Int))], []⟩) (fun x => x.2 ≤ b.code.length) (fun x => b.code.length - x.2) (_, 0) (by simp (config := {maxSteps := 2000000, implicitDefEqProofs := false}) (disch := omega) only [↓reduceIte, go_sem, Int.reduceToNat, Nat.reduceAdd, Nat.reduceLeDiff, Nat.reduceEqDiff, Nat.reduceSub, Nat.reduceMul, reduceCtorEq, encFn]; rfl) (Nat.zero_le _) ?_
    rintro ⟨n2, j⟩ h2
    simp only at h2
    simp (config := {maxSteps := 2000000, implicitDefEqProofs := false}) (disch := omega) only [↓reduceIte, go_sem, Int.reduceToNat, Nat.reduceAdd, Nat.reduceLeDiff, Nat.reduceEqDiff, Nat.reduceSub, Nat.reduceMul, reduceCtorEq, encFn, hb, encBk]
    refine ifD (fun c2 => ?_) (fun c2 => ?_)
    · have hi : b.code[j]? = some b.code[j] := List.getElem?_eq_getElem (by omega)
      have him : b.code[j] ∈ b.code := List.getElem_mem _
      have hci := hcb.2 _ him
      generalize b.code[j] = x at hi hci
      simp (config := {maxSteps := 2000000, implicitDefEqProofs := false}) (disch := omega) only [↓reduceIte, go_sem, Int.reduceToNat, Nat.reduceAdd, Nat.reduceLeDiff, Nat.reduceEqDiff, Nat.reduceSub, Nat.reduceMul, reduceCtorEq, encFn, hb, encBk, hi, encIn]
      refine loopL (σ := Int × Nat) (fun y => ⟨[(1, .rp (encFn f)), (3, .int .i64 y.1), (4, .int .i64 (i : Int)), (5, .int .i64 (j : Int)), (6, .rp (encIn x)), (7, .int .i64 (y.2 : Int))], []⟩) (fun y => y.2 ≤ x.labels.length) (fun y => x.labels.length - y.2) (_, 0) (by simp (config := {maxSteps := 2000000, implicitDefEqProofs := false}) (disch := omega) only [↓reduceIte, go_sem, Int.reduceToNat, Nat.reduceAdd, Nat.reduceLeDiff, Nat.reduceEqDiff, Nat.reduceSub, Nat.reduceMul, reduceCtorEq, encFn, encIn]; rfl) (Nat.zero_le _) ?_
      rintro ⟨n3, k⟩ h3
      simp only at h3
      simp (config := {maxSteps := 2000000, implicitDefEqProofs := false}) (disch := omega) only [↓reduceIte, go_sem, Int.reduceToNat, Nat.reduceAdd, Nat.reduceLeDiff, Nat.reduceEqDiff, Nat.reduceSub, Nat.reduceMul, reduceCtorEq, encFn, encIn]
      refine ifD (fun c3 => ?_) (fun c3 => ?_)
      · have hlk : x.labels[k]? = some x.labels[k] := List.getElem?_eq_getElem (by omega)
        generalize x.labels[k] = lb at hlk
        simp (config := {maxSteps := 2000000, implicitDefEqProofs := false}) (disch := omega) only [↓reduceIte, go_sem, Int.reduceToNat, Nat.reduceAdd, Nat.reduceLeDiff, Nat.reduceEqDiff, Nat.reduceSub, Nat.reduceMul, reduceCtorEq, encFn, encIn, hlk, encSt]
        exact ⟨(_, k + 1), rfl, by simp only; omega, by simp only; omega⟩
      · simp (config := {maxSteps := 2000000, implicitDefEqProofs := false}) (disch := omega) only [↓reduceIte, go_sem, Int.reduceToNat, Nat.reduceAdd, Nat.reduceLeDiff, Nat.reduceEqDiff, Nat.reduceSub, Nat.reduceMul, reduceCtorEq, encFn, encIn]
        exact ⟨(_, j + 1), rfl, by simp only; omega, by simp only; omega⟩
    · simp (config := {maxSteps := 2000000, implicitDefEqProofs := false}) (disch := omega) only [↓reduceIte, go_sem, Int.reduceToNat, Nat.reduceAdd, Nat.reduceLeDiff, Nat.reduceEqDiff, Nat.reduceSub, Nat.reduceMul, reduceCtorEq, encFn]
      exact ⟨(_, i + 1), rfl, by simp only; omega, by simp only; omega⟩
  · simp (config := {maxSteps := 2000000, implicitDefEqProofs := false}) (disch := omega) only [↓reduceIte, go_sem, Int.reduceToNat, Nat.reduceAdd, Nat.reduceLeDiff, Nat.reduceEqDiff, Nat.reduceSub, Nat.reduceMul, reduceCtorEq, encFn]
    refine ifD (fun c2 => ?_) (fun c2 => ?_)
    · simp (config := {maxSteps := 2000000, implicitDefEqProofs := false}) (disch := omega) only [↓reduceIte, go_sem, Int.reduceToNat, Nat.reduceAdd, Nat.reduceLeDiff, Nat.reduceEqDiff, Nat.reduceSub, Nat.reduceMul, reduceCtorEq, encFn]
      exact ⟨⟨_, rfl⟩, rfl⟩
    · simp (config := {maxSteps := 2000000, implicitDefEqProofs := false}) (disch := omega) only [↓reduceIte, go_sem, Int.reduceToNat, Nat.reduceAdd, Nat.reduceLeDiff, Nat.reduceEqDiff, Nat.reduceSub, Nat.reduceMul, reduceCtorEq, encFn]
      exact ⟨⟨_, rfl⟩, rfl⟩
end Go.Proofs.Yticjemfgbfphdaa.X
