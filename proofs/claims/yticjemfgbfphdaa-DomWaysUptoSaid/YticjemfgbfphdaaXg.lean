/- The tree of a function's blocks: what it answers. -/
import Derived.Test.YticjemfgbfphdaaXf
import Derived.Test.YticjemfgbfphdaaXe
namespace Go.Proofs.Yticjemfgbfphdaa.X
open Go Go.AM Go.Proofs
open Go.Bits
set_option linter.unusedVariables false
set_option linter.unusedSimpArgs false
set_option maxRecDepth 10000
theorem succF_len {bs : List Blk} : (succF bs).length = bs.length := by simp [succF]
theorem succF_get {bs : List Blk} {a : Nat} : (succF bs).getD a [] = match bs[a]? with | some b => succB bs b | none => [] := by
  simp only [succF, List.getD_eq_getElem?_getD, List.getElem?_map]
  cases bs[a]? <;> rfl
theorem succF_ok {bs : List Blk} (h : bs.length < 1000000) : GrOk (succF bs) := by
  refine ⟨fun a b hb => ?_, by rw [succF_len]; exact h, fun a => ?_⟩
  · rw [succF_get] at hb
    rw [succF_len]
    split at hb
    · exact succB_lt _ _ b hb
    · cases hb
  · rw [succF_get]
    split
    · have := succB_len bs ‹Blk›
      omega
    · simp
theorem predF_mem {s : List (List Nat)} (hw : WFs s) (i p : Nat) : p ∈ (predF s).getD i [] ↔ i ∈ s.getD p [] := by
  simp only [predF, List.getD_eq_getElem?_getD, List.getElem?_map]
  by_cases hi : i < s.length
  · rw [List.getElem?_range hi]
    simp only [Option.map_some, Option.getD_some, predR, List.mem_filter, List.mem_range, decide_eq_true_eq]
    exact ⟨fun h => h.2, fun h => ⟨mem_src h, h⟩⟩
  · rw [List.getElem?_eq_none (by simpa using hi)]
    simp only [Option.map_none, Option.getD_none, List.not_mem_nil, false_iff]
    exact fun h => hi (hw p i h)
theorem predF_P {s : List (List Nat)} (hs : GrOk s) (i : Nat) : ((predF s).getD i []).length < 1000000 ∧ ∀ p ∈ (predF s).getD i [], p < s.length := by
  have h : ∀ p ∈ (predF s).getD i [], p < s.length := fun p hp => mem_src ((predF_mem hs.wf i p).1 hp)
  refine ⟨?_, h⟩
  have hn : ((predF s).getD i []).Nodup := by
    simp only [predF, List.getD_eq_getElem?_getD, List.getElem?_map]
    by_cases hi : i < s.length
    · rw [List.getElem?_range hi]
      exact (List.nodup_range).filter _
    · rw [List.getElem?_eq_none (by simpa using hi)]
      simp
  have := nodup_le hn h
  have := hs.len
  omega
theorem domNew {S : List (List Nat)} (hs : GrOk S) : ∃ od id, DT S od id ∧ Ctr Try.prog 9 [grP S (predF S)] [] (ret [encTr id od]) := by
  by_cases h0 : S.length = 0
  · have : S = [] := List.eq_nil_of_length_eq_zero h0
    subst this
    exact ⟨[], [], dt_nil, C9_nil _⟩
  · have hop := post_ok hs.wf (by omega)
    have ho : orderP S = (postP S).reverse := by rw [orderP, if_neg h0]
    rw [← ho] at hop
    obtain ⟨l, hl⟩ : ∃ l, orderP S = 0 :: l := by
      have := hop.head
      cases h : orderP S with
      | nil => rw [h] at this; simp at this
      | cons a l => rw [h] at this; simp at this; exact ⟨l, by rw [this]⟩
    rw [hl] at hop
    have hlS : ∀ i ∈ l, i < S.length := fun i hi => ((hop.mem i).1 (List.mem_cons_of_mem _ hi)).lt hs.wf
    have hll : l.length < 1000000 := by
      have := nodup_le (List.nodup_cons.1 hop.nd).2 hlS
      have := hs.len
      omega
    obtain ⟨N, hN, hT, hD⟩ := dom_ends (P := predF S) ⟨hs.wf, predF_mem hs.wf⟩ hop (by omega) hs.len
    exact ⟨_, _, dt_of hD hs.wf (by omega) hs.len, C9 S (predF S) hs (by simp [predF]) (predF_P hs) (by omega) l hl hlS hll N hN hT⟩
/-- The blocks of which a block is the nearest one. -/
noncomputable def kidsR (s : List (List Nat)) (b n : Nat) : List Nat := (List.range n).filter fun a => decide (idomR s a = (b : Int))
theorem kidsR_le {s : List (List Nat)} {b n : Nat} : (kidsR s b n).length ≤ n := by
  unfold kidsR
  have := List.length_filter_le (fun a => decide (idomR s a = (b : Int))) (List.range n)
  rwa [List.length_range] at this
theorem kidsR_succ {s : List (List Nat)} {b n : Nat} : kidsR s b (n + 1) = if idomR s n = (b : Int) then kidsR s b n ++ [n] else kidsR s b n := by
  unfold kidsR
  rw [List.range_succ, List.filter_append]
  by_cases h : idomR s n = (b : Int)
  · rw [if_pos h]
    congr 1
    simp only [List.filter_cons, List.filter_nil, decide_eq_true h, if_true]
  · rw [if_neg h]
    simp only [List.filter_cons, List.filter_nil, decide_eq_false h, Bool.false_eq_true, if_false, List.append_nil]
theorem kidsR_pre {s : List (List Nat)} {b n m : Nat} (h : n ≤ m) : ∃ r, kidsR s b m = kidsR s b n ++ r := by
  induction m with
  | zero => rw [show n = 0 by omega]; exact ⟨[], by simp⟩
  | succ m ih =>
    by_cases e : n = m + 1
    · subst e; exact ⟨[], by simp⟩
    · obtain ⟨r, hr⟩ := ih (by omega)
      rw [kidsR_succ, hr]
      split
      · exact ⟨r ++ [m], by simp⟩
      · exact ⟨r, rfl⟩
theorem kidsR_at {s : List (List Nat)} {b n m : Nat} (h : n < m) (he : idomR s n = (b : Int)) : (kidsR s b n).length < (kidsR s b m).length ∧ (kidsR s b m)[(kidsR s b n).length]? = some n := by
  obtain ⟨r, hr⟩ := kidsR_pre (s := s) (b := b) (show n + 1 ≤ m by omega)
  rw [kidsR_succ, if_pos he] at hr
  rw [hr]
  simp
/-- What the tree of a graph answers. -/
structure TreeC (S : List (List Nat)) (t : AV) (ov : Int → List Nat) (bl : Nat → List Bool) : Prop where
  new : Ctr Try.prog 9 [grP S (predF S)] [] (ret [t])
  idom : ∀ b : Nat, Ctr Try.prog 11 [t, .int .i64 (b : Int)] [] (ret [.int .i64 (idomR S b)])
  depth : ∀ b : Nat, Ctr Try.prog 13 [t, .int .i64 (b : Int)] [] (ret [.int .i64 (cntD S b : Int)])
  is : ∀ a b : Nat, Ctr Try.prog 17 [t, .int .i64 (a : Int), .int .i64 (b : Int)] [] (ret [.bool (isD S a b)])
  kids : ∀ b : Nat, Ctr Try.prog 16 [t, .int .i64 (b : Int)] [] (ret [.sl ((kidsR S b S.length).map encK)])
  below : ∀ b : Nat, Ctr Try.prog 15 [t, .int .i64 (b : Int)] [] (ret [.rp [.int .i64 (S.length : Int), .sl (encWs (bl b))]])
  bl : ∀ b, (bl b).length = S.length ∧ ∀ a, (bl b).getD a false = isD S b a
  over : ∀ b : Int, Ctr Try.prog 20 [t, .int .i64 b] [] (ret [.sl ((ov b).map encK)])
  ovl : ∀ b, (ov b).length < 1000000
  ovm : ∀ (b : Nat) d, d ∈ ov (b : Int) ↔ isD S d b = true
  ov0 : ∀ b : Int, b < 0 ∨ (S.length : Int) ≤ b → ov b = []
  ovr : ∀ b : Nat, 0 < (ov (b : Int)).length ↔ Rch S (-1) b
  ovh : ∀ b : Int, 0 < (ov b).length → (ov b)[0]? = some b.toNat ∧ 0 ≤ b
  ovn : ∀ (b : Int) (k x y : Nat), (ov b)[k]? = some x → (ov b)[k + 1]? = some y → idomR S x = (y : Int)
  ove : ∀ (b : Int) (x : Nat), (ov b).getLast? = some x → x = 0
theorem chn_end {S : List (List Nat)} {od id : List Int} (h : DT S od id) {b : Int} {L : List Nat} (hc : Chn id od b L) : ∀ x, L.getLast? = some x → x = 0 := by
  induction hc with
  | nil _ => intro x hx; simp at hx
  | @cons k r hin hc ih =>
    intro x hx
    cases r with
    | nil =>
      simp at hx
      subst hx
      have hr := (inT_iff h k).1 hin
      by_cases h0 : k = 0
      · exact h0
      · obtain ⟨u, h1, h2, _⟩ := h.up k hr h0
        have e : idT id od (k : Int) = (u : Int) := by
          unfold idT
          rw [if_pos hin, Int.toNat_natCast, h1]
        rw [e] at hc
        cases hc with
        | nil h' => rw [(inT_iff h u).2 h2] at h'; cases h'
    | cons a r => exact ih x (by rw [← hx]; simp)
theorem chn_nx {S : List (List Nat)} {od id : List Int} (h : DT S od id) {b : Int} {L : List Nat} (hc : Chn id od b L) : ∀ k x y : Nat, L[k]? = some x → L[k + 1]? = some y → idomR S x = (y : Int) := by
  induction hc with
  | nil _ => intro k x y hx; simp at hx
  | @cons k r hin hc ih =>
    intro j x y hx hy
    cases j with
    | zero =>
      simp at hx hy
      subst hx
      rw [← (h.idom k).2]
      generalize idT id od (k : Int) = z at hc
      cases hc with
      | nil _ => simp at hy
      | cons _ _ => simp at hy; rw [hy]
    | succ j => exact ih j x y (by simpa using hx) (by simpa using hy)
theorem treeC {S : List (List Nat)} (hs : GrOk S) : ∃ c ov bl, TreeC S (.rp c) ov bl := by
  classical
  obtain ⟨od, id, h, hn⟩ := domNew hs
  have hlen : id.length = od.length := by rw [h.len, h.ol]
  have hsm : id.length < 1000000 := by rw [h.len]; exact h.small
  have hch : ∀ b : Int, ∃ L, Chn id od b L ∧ L.length < 1000000 ∧ ((b < 0 ∨ (S.length : Int) ≤ b) → L = []) ∧ ∀ c : Nat, b = (c : Int) → (∀ d, d ∈ L ↔ isD S d c = true) ∧ L.length = cntD S c := fun b => by
    by_cases hb : b < 0
    · exact ⟨[], .nil (inT_neg hb), by simp, fun _ => rfl, fun c hc => by omega⟩
    · obtain ⟨c, rfl⟩ : ∃ c : Nat, b = (c : Int) := ⟨b.toNat, by omega⟩
      obtain ⟨L, h1, h2, h3, h4⟩ := h.chain c
      refine ⟨L, h1, h4, fun hh => ?_, fun c' hc => ?_⟩
      · cases h1 with
        | nil _ => rfl
        | cons hin _ =>
          have := ((inT_iff h c).1 hin).lt h.wf
          omega
      · have : c' = c := by omega
        subst this
        exact ⟨h2, h3⟩
  have hov := fun b => Classical.choose_spec (hch b)
  have hbl := fun b => Classical.choose_spec (h.below b)
  refine ⟨[.sl (id.map encN), .sl (od.map encN)], fun b => Classical.choose (hch b), fun b => (iterW id od (startW od id.length b) (Classical.choose (h.below b))).2, ?_⟩
  have hov := fun b => Classical.choose_spec (hch b)
  refine ⟨hn, fun b => ?_, fun b => ?_, fun a b => ?_, fun b => ?_, fun b => ?_, fun b => ⟨(hbl b).2.2.1, (hbl b).2.2.2⟩, fun b => ?_, fun b => (hov b).2.1, fun b d => ((hov b).2.2.2 b rfl).1 d, fun b => (hov b).2.2.1, fun b => ?_, fun b hb => ?_, fun b => chn_nx h (hov b).1, fun b => chn_end h (hov b).1⟩
  · have := C11 id od hlen (b : Int)
    rwa [(h.idom b).2] at this
  · have := C13 id od hlen (b : Int) _ (hov b).1 (hov b).2.1
    rwa [((hov b).2.2.2 b rfl).2] at this
  · have := C17 id od hlen (a : Int) (b : Int) _ (hov b).1 (hov b).2.1
    have e : decide (∃ k ∈ Classical.choose (hch (b : Int)), (k : Int) = (a : Int)) = isD S a b := by
      rw [Bool.eq_iff_iff, decide_eq_true_iff, ← ((hov b).2.2.2 b rfl).1 a]
      exact ⟨fun ⟨k, hk, e⟩ => by rwa [show a = k by omega], fun hk => ⟨a, hk, rfl⟩⟩
    rwa [e] at this
  · have := C16 id od hlen hsm (b : Int)
    rw [h.kids] at this
    exact this
  · have := C15 id od hlen hsm b _ (hbl b).1 (hbl b).2.1
    have e2 : ((id.length : Nat) : Int) = (S.length : Int) := by rw [h.len]
    rw [e2] at this
    exact this
  · exact C20 id od hlen b _ (hov b).1 (hov b).2.1
  · rw [((hov b).2.2.2 b rfl).2]
    constructor
    · intro hc
      unfold cntD at hc
      obtain ⟨a, ha⟩ := List.exists_mem_of_length_pos hc
      exact (isD_iff.1 (List.mem_filter.1 ha).2).1
    · exact fun hr => h.cnt_pos hr
  · have := (hov b).1
    generalize Classical.choose (hch b) = L at this hb
    cases this with
    | nil _ => simp at hb
    | cons _ _ => exact ⟨by simp, by omega⟩
end Go.Proofs.Yticjemfgbfphdaa.X
/- An example: works. -/
namespace Go.Proofs.Yticjemfgbfphdaa.X
open Go Go.AM Go.Proofs
attribute [local go_sem ↓] w_skip w_lbl w_ops w_draw w_pre w_post w_alt w_seq w_cond w_block w_join w_loop w_exit w_ret w_scope w_rfunc l_nil l_cons th_n th_e th_r bk_n bk_r bk_e t_nil t_it t_call i_nil i_one i_grp s_nil s_cons c_call e_mv e_nil e_dyn e_nilb e_frz o_mov o_bin o_eq o_un o_conv o_len o_slen o_idx o_aix o_fad o_load o_store o_boxp o_boxo o_boxm o_alloc o_allocm o_alloca o_nilarr o_build o_bslp o_bslo o_slc o_sslc o_slc3 o_sidx o_mkfn o_mkmv o_vidx o_ext o_pick o_callf o_callb o_appd o_clear o_mxn o_field o_nilc o_make o_makeb o_buildm o_boxg o_mkif o_tass o_eqs o_callo o_callx k_int k_str k_bool k_grb k_grt k_some k_none k_arr k_lens k_lenf k_lenh k_lenb k_idxb k_idxs k_idxf k_idxh k_ld k_loadp k_loadr k_loade k_storer k_storee k_oin k_ois k_slcs k_slcf k_slch k_slc3s k_slc3f k_slc3h k_app2 k_apps k_appf k_apph k_cals k_cald k_cali k_cnb k_cna k_esn k_esc k_efn k_efc k_esh b_add b_sub b_mul b_quo b_rem b_and b_or b_xor b_andNot b_eql b_neq b_lss b_leq b_gtr b_geq b_shl b_shr b_seq b_sne b_slt b_sad q_bool q_str q_nil q_nilf u_not u_neg u_xor f_ret f_nor v_r v_c v_g v_reg v_ob v_set v_put v_so v_sn v_pn v_pc g_nil d_nil p_nil m_mv m_fr z_nil z_cons z_an z_ac g_cons d_cons p_cons y_mov y_bin y_eq y_un y_conv y_len y_slen y_idx y_aix y_fad y_load y_store y_boxp y_boxo y_boxm y_alloc y_alloca y_allocm y_nilarr y_build y_bslp y_bslo y_slc y_sslc y_slc3 y_sidx y_mkfn y_ext y_pick y_callf y_callb y_appd y_clear y_mxn y_field y_nilc y_make y_makeb y_buildm y_boxg y_mkif y_tass y_eqs y_callo y_mkmv y_callx y_vidx nb_if
attribute [local go_sem] nbd VL_mk VL2_mk If_t If_f If_not If_and If_or If_dt If_df If_et If_ef If_ne Ck_t Ck_h Opt_s ld_a ld_c lm_a lm_c renL ren keepR renA idxM invL getObs mapOb renOb allNone putAll fzR fzO fz fzL fzOb fzB frzOk upFrom mapR resOne resA cellsOf oneA oneAL isP isPL okSt kRows kParts fillA setAt bor bor0 bor1 bor2 borC borI key0 key1 key2 keysA fillM cellsM cellM unif ptrA ifOk kPartsM getObsM allNoneM zipU scal0 scalar eqC evNil evNilF memK keyX hideM xbor scal1 scalX scalOb bndA mkMag showM lendV hideV hideR hideOb hideL hideO showL backO noneO mapA List.map_cons List.map_nil List.cons_append List.nil_append List.append_nil List.drop_zero List.drop_succ_cons List.drop_nil List.take_succ_cons List.take_zero List.take_nil List.length_cons List.length_nil List.length_map List.getElem?_map Option.map_some Option.map_none Int.toNat_natCast Int.toNat_zero Int.toNat_one Int.natCast_nonneg List.flatMap_cons List.flatMap_nil List.all_cons List.all_nil List.any_cons List.any_nil Bool.or_false Bool.false_or Bool.or_true Bool.true_or Bool.and_true Bool.true_and Bool.and_false Bool.false_and Bool.not_true Bool.not_false beq_self_eq_true nb_self all_nil List.forall_mem_cons tk_map tk_app bs_self bs_dec bq_t bq_f Bool.not_not decide_true decide_false Bool.not_not and_self and_true true_and eq_self List.reverse_cons List.reverse_nil List.getElem?_cons_zero List.getElem?_cons_succ cond_true cond_false List.set_cons_zero List.set_cons_succ Nat.zero_add Nat.add_zero if_true if_false ite_true ite_false implies_true wrap64 wrap8
open Go.Bits
set_option linter.unusedVariables false
set_option linter.unusedSimpArgs false
set_option maxRecDepth 10000
theorem C26 (a b : List Int) (ha : a.length < 1000000) : Ctr Try.prog 26 [.sl (a.map encN), .sl (b.map encN)] [] (ret [.bool (a == b)]) := by
  apply ctr_b A26_ok rfl (Nat.le_of_ble_eq_true rfl)
  unfold A26
  simp only [initL, Nat.reduceAdd]
  simp (config := {maxSteps := 2000000, implicitDefEqProofs := false}) (disch := omega) only [↓reduceIte, go_sem, Int.reduceToNat, Nat.reduceAdd, Nat.reduceLeDiff, Nat.reduceEqDiff, Nat.reduceSub, Nat.reduceMul, reduceCtorEq]
  refine ifE (fun e => ?_) (fun e => ?_)
  · simp (config := {maxSteps := 2000000, implicitDefEqProofs := false}) (disch := omega) only [↓reduceIte, go_sem, Int.reduceToNat, Nat.reduceAdd, Nat.reduceLeDiff, Nat.reduceEqDiff, Nat.reduceSub, Nat.reduceMul, reduceCtorEq]
    refine loopL (σ := Nat) (fun n => ⟨[(0, .sl (a.map encN)), (1, .sl (b.map encN)), (5, .int .i64 (n : Int))], []⟩) (fun n => n ≤ a.length ∧ a.take n = b.take n) (fun n => a.length - n) 0 (by simp (config := {maxSteps := 2000000, implicitDefEqProofs := false}) (disch := omega) only [↓reduceIte, go_sem, Int.reduceToNat, Nat.reduceAdd, Nat.reduceLeDiff, Nat.reduceEqDiff, Nat.reduceSub, Nat.reduceMul, reduceCtorEq]; rfl) ⟨Nat.zero_le _, rfl⟩ ?_
    rintro n ⟨h1, h2⟩
    have hl : a.length = b.length := by omega
    simp (config := {maxSteps := 2000000, implicitDefEqProofs := false}) (disch := omega) only [↓reduceIte, go_sem, Int.reduceToNat, Nat.reduceAdd, Nat.reduceLeDiff, Nat.reduceEqDiff, Nat.reduceSub, Nat.reduceMul, reduceCtorEq]
    refine ifD (fun c => ?_) (fun c => ?_)
    · have g1 := intD (l := a) (k := n) (by omega)
      have g2 := intD (l := b) (k := n) (by omega)
      simp (config := {maxSteps := 2000000, implicitDefEqProofs := false}) (disch := omega) only [↓reduceIte, go_sem, Int.reduceToNat, Nat.reduceAdd, Nat.reduceLeDiff, Nat.reduceEqDiff, Nat.reduceSub, Nat.reduceMul, reduceCtorEq, g1, g2, encN]
      refine accL (by kernel_rfl) ?_
      simp (config := {maxSteps := 2000000, implicitDefEqProofs := false}) (disch := omega) only [↓reduceIte, go_sem, Int.reduceToNat, Nat.reduceAdd, Nat.reduceLeDiff, Nat.reduceEqDiff, Nat.reduceSub, Nat.reduceMul, reduceCtorEq, g1, g2, encN]
      refine ifE (fun e2 => ?_) (fun e2 => ?_)
      · simp (config := {maxSteps := 2000000, implicitDefEqProofs := false}) (disch := omega) only [↓reduceIte, go_sem, Int.reduceToNat, Nat.reduceAdd, Nat.reduceLeDiff, Nat.reduceEqDiff, Nat.reduceSub, Nat.reduceMul, reduceCtorEq]
        refine ⟨n + 1, by simp, ⟨by omega, ?_⟩, by omega⟩
        rw [snoc_take g1, snoc_take g2, h2, e2]
      · simp (config := {maxSteps := 2000000, implicitDefEqProofs := false}) (disch := omega) only [↓reduceIte, go_sem, Int.reduceToNat, Nat.reduceAdd, Nat.reduceLeDiff, Nat.reduceEqDiff, Nat.reduceSub, Nat.reduceMul, reduceCtorEq]
        have hne : (a == b) = false := by
          refine beq_eq_false_iff_ne.2 fun hab => ?_
          exact e2 (by rw [hab])
        exact ⟨by rw [hne], rfl⟩
    · simp (config := {maxSteps := 2000000, implicitDefEqProofs := false}) (disch := omega) only [↓reduceIte, go_sem, Int.reduceToNat, Nat.reduceAdd, Nat.reduceLeDiff, Nat.reduceEqDiff, Nat.reduceSub, Nat.reduceMul, reduceCtorEq]
      have : n = a.length := by omega
      rw [this, List.take_length, hl, List.take_length] at h2
      exact ⟨by rw [h2]; simp, rfl⟩
  · simp (config := {maxSteps := 2000000, implicitDefEqProofs := false}) (disch := omega) only [↓reduceIte, go_sem, Int.reduceToNat, Nat.reduceAdd, Nat.reduceLeDiff, Nat.reduceEqDiff, Nat.reduceSub, Nat.reduceMul, reduceCtorEq]
    have hne : (a == b) = false := by
      refine beq_eq_false_iff_ne.2 fun hab => ?_
      exact e (by rw [hab])
    exact ⟨by rw [hne], rfl⟩
def brX (l : List ByteArray) : Ins := ⟨21, ⟨0, 0, 0, 0⟩, [], .empty, 0, l, []⟩
def bsX : List Blk := [⟨⟨#[97]⟩, false, [], [brX [⟨#[98]⟩, ⟨#[99]⟩]]⟩, ⟨⟨#[98]⟩, false, [], [brX [⟨#[100]⟩]]⟩, ⟨⟨#[99]⟩, false, [], [brX [⟨#[100]⟩]]⟩, ⟨⟨#[100]⟩, false, [], []⟩, ⟨⟨#[101]⟩, false, [], []⟩]
def fX : Fnc := ⟨false, .empty, [], [], bsX⟩
theorem C25 (l : List ByteArray) : Ctr Try.prog 25 [.sl (l.map encSt)] [] (ret [.sl [encIn (brX l)]]) := by
  apply ctr_b A25_ok rfl (Nat.le_of_ble_eq_true rfl)
  unfold A25
  simp only [initL, Nat.reduceAdd]
  simp (config := {maxSteps := 2000000, implicitDefEqProofs := false}) (disch := omega) only [↓reduceIte, go_sem, Int.reduceToNat, Nat.reduceAdd, Nat.reduceLeDiff, Nat.reduceEqDiff, Nat.reduceSub, Nat.reduceMul, reduceCtorEq]
  exact ⟨rfl, rfl⟩
def sX : List (List Nat) := [[1, 2], [3], [3], [], []]
def odX : List Int := [0, 2, 1, 3, -1]
def idX : List Int := [-1, 0, 0, 0, -1]
theorem succX : succF bsX = sX := by decide
theorem okX : GrOk sX := by
  rw [← succX]
  exact succF_ok (by decide)
theorem ordX : orderP sX = [0, 2, 1, 3] := by decide
theorem newX : Ctr Try.prog 9 [grP sX (predF sX)] [] (ret [encTr idX odX]) := by
  have hop := post_ok okX.wf (show 0 < sX.length by decide)
  have ho : orderP sX = (postP sX).reverse := by rw [orderP, if_neg (by decide)]
  rw [← ho, ordX] at hop
  obtain ⟨N, hN, hT, _⟩ := dom_ends (P := predF sX) ⟨okX.wf, predF_mem okX.wf⟩ hop (by decide) (by decide)
  have e1 : odT sX.length (0 :: [2, 1, 3]) = odX := by decide
  rw [e1] at hN hT
  have e : N = 1 := by
    rcases Nat.lt_trichotomy N 1 with h | h | h
    · have : N = 0 := by omega
      subst this
      exact absurd hN.2.1 (by decide)
    · exact h
    · exact absurd (hN.1 1 h) (by decide)
  subst e
  have := C9 sX (predF sX) okX (by decide) (predF_P okX) (by decide) [2, 1, 3] ordX (by decide) (by decide) 1
  rw [e1] at this
  have h := this hN hT
  have e2 : (seqT sX.length odX (predF sX) [2, 1, 3] 1).set 0 (-1) = idX := by decide
  rw [e2] at h
  exact h
theorem chX (v : Int) (h : inT odX v = false) : Chn idX odX v [] := .nil h
set_option maxHeartbeats 4000000 in
theorem C7 : Ctr Try.prog 7 [] [] (ret [.bool true]) := by
  have hb1 := C25 [⟨#[98]⟩, ⟨#[99]⟩]
  have hb2 := C25 [⟨#[100]⟩]
  have hg := C10 fX (by decide) (by decide)
  rw [show fX.blocks = bsX from rfl, succX] at hg
  have hn := newX
  have hgP : isP (grP sX (predF sX)) = true := rfl
  have hgr : ∀ m, ren m (grP sX (predF sX)) = grP sX (predF sX) := fun m => by simp only [grP, ren]
  have hi3 := C11 idX odX rfl 3
  have hi0 := C11 idX odX rfl 0
  rw [show idT idX odX 3 = 0 by decide] at hi3
  rw [show idT idX odX 0 = -1 by decide] at hi0
  have c0 : Chn idX odX ((0 : Nat) : Int) [0] := .cons (by decide) (.nil (by decide))
  have c3 : Chn idX odX ((3 : Nat) : Int) [3, 0] := .cons (by decide) c0
  have c4 : Chn idX odX ((4 : Nat) : Int) [] := .nil (by decide)
  have hs03 := C17 idX odX rfl 0 3 _ c3 (by decide)
  rw [show decide (∃ k ∈ ([3, 0] : List Nat), (k : Int) = 0) = true by decide] at hs03
  have hs13 := C17 idX odX rfl 1 3 _ c3 (by decide)
  rw [show decide (∃ k ∈ ([3, 0] : List Nat), (k : Int) = 1) = false by decide] at hs13
  have hd3 := C13 idX odX rfl 3 _ c3 (by decide)
  have hd4 := C13 idX odX rfl 4 _ c4 (by decide)
  have hk0 := C16 idX odX rfl (by decide) 0
  rw [show kidsL idX odX 0 = [1, 2, 3] by decide] at hk0
  have ho3 := C20 idX odX rfl 3 _ c3 (by decide)
  have hints := C26 [3, 0] [3, 0] (by decide)
  rw [show (([3, 0] : List Int) == [3, 0]) = true by decide] at hints
  have hb0 := C15 idX odX rfl (by decide) 0 5 (by decide) (by decide)
  have hbe : (iterW idX odX (startW odX idX.length 0) 5).2 = [true, true, true, true, false] := by decide
  rw [hbe] at hb0
  have hcn := C27 (n := 5) (bs := [true, true, true, true, false]) rfl (by decide)
  rw [show (ones [true, true, true, true, false]).length = 4 by decide] at hcn
  have hw : encWs [true, true, true, true, false] = [[.int .u64 15]] := rfl
  rw [hw] at hb0 hcn
  simp only [fX, bsX, encFn, encBk, encIn, brX, encO, encSt, encK, encN, List.map_cons, List.map_nil, List.length_cons, List.length_nil, Nat.reduceAdd, Int.natCast_zero, Int.cast_ofNat_Int] at hb1 hb2 hg hi3 hi0 hs03 hs13 hd3 hd4 hk0 ho3 hints hb0 hcn
  obtain ⟨c, hc⟩ : ∃ c, encTr idX odX = AV.rp c := ⟨_, rfl⟩
  rw [hc] at hn hi3 hi0 hs03 hs13 hd3 hd4 hk0 ho3 hb0
  apply ctr_b A7_ok rfl (Nat.le_of_ble_eq_true rfl)
  unfold A7
  simp only [initL, Nat.reduceAdd]
  simp (config := {maxSteps := 2000000, implicitDefEqProofs := false}) (disch := omega) only [↓reduceIte, go_sem, Int.reduceToNat, Nat.reduceAdd, Nat.reduceLeDiff, Nat.reduceEqDiff, Nat.reduceSub, Nat.reduceMul, reduceCtorEq]
  refine callL hb1 ?_
  simp (config := {maxSteps := 2000000, implicitDefEqProofs := false}) (disch := omega) only [↓reduceIte, go_sem, Int.reduceToNat, Nat.reduceAdd, Nat.reduceLeDiff, Nat.reduceEqDiff, Nat.reduceSub, Nat.reduceMul, reduceCtorEq]
  refine callL hb2 ?_
  simp (config := {maxSteps := 2000000, implicitDefEqProofs := false}) (disch := omega) only [↓reduceIte, go_sem, Int.reduceToNat, Nat.reduceAdd, Nat.reduceLeDiff, Nat.reduceEqDiff, Nat.reduceSub, Nat.reduceMul, reduceCtorEq]
  refine callL hb2 ?_
  simp (config := {maxSteps := 2000000, implicitDefEqProofs := false}) (disch := omega) only [↓reduceIte, go_sem, Int.reduceToNat, Nat.reduceAdd, Nat.reduceLeDiff, Nat.reduceEqDiff, Nat.reduceSub, Nat.reduceMul, reduceCtorEq]
  refine callL hg ?_
  simp (config := {maxSteps := 2000000, implicitDefEqProofs := false}) (disch := omega) only [↓reduceIte, go_sem, Int.reduceToNat, Nat.reduceAdd, Nat.reduceLeDiff, Nat.reduceEqDiff, Nat.reduceSub, Nat.reduceMul, reduceCtorEq, hgP, hgr]
  refine callL hn ?_
  simp (config := {maxSteps := 2000000, implicitDefEqProofs := false}) (disch := omega) only [↓reduceIte, go_sem, Int.reduceToNat, Nat.reduceAdd, Nat.reduceLeDiff, Nat.reduceEqDiff, Nat.reduceSub, Nat.reduceMul, reduceCtorEq]
  refine callL hi3 ?_
  simp (config := {maxSteps := 2000000, implicitDefEqProofs := false}) (disch := omega) only [↓reduceIte, go_sem, Int.reduceToNat, Nat.reduceAdd, Nat.reduceLeDiff, Nat.reduceEqDiff, Nat.reduceSub, Nat.reduceMul, reduceCtorEq]
  refine callL hi0 ?_
  simp (config := {maxSteps := 2000000, implicitDefEqProofs := false}) (disch := omega) only [↓reduceIte, go_sem, Int.reduceToNat, Nat.reduceAdd, Nat.reduceLeDiff, Nat.reduceEqDiff, Nat.reduceSub, Nat.reduceMul, reduceCtorEq]
  refine callL hs03 ?_
  simp (config := {maxSteps := 2000000, implicitDefEqProofs := false}) (disch := omega) only [↓reduceIte, go_sem, Int.reduceToNat, Nat.reduceAdd, Nat.reduceLeDiff, Nat.reduceEqDiff, Nat.reduceSub, Nat.reduceMul, reduceCtorEq]
  refine callL hs13 ?_
  simp (config := {maxSteps := 2000000, implicitDefEqProofs := false}) (disch := omega) only [↓reduceIte, go_sem, Int.reduceToNat, Nat.reduceAdd, Nat.reduceLeDiff, Nat.reduceEqDiff, Nat.reduceSub, Nat.reduceMul, reduceCtorEq]
  refine callL hd3 ?_
  simp (config := {maxSteps := 2000000, implicitDefEqProofs := false}) (disch := omega) only [↓reduceIte, go_sem, Int.reduceToNat, Nat.reduceAdd, Nat.reduceLeDiff, Nat.reduceEqDiff, Nat.reduceSub, Nat.reduceMul, reduceCtorEq]
  refine callL hd4 ?_
  simp (config := {maxSteps := 2000000, implicitDefEqProofs := false}) (disch := omega) only [↓reduceIte, go_sem, Int.reduceToNat, Nat.reduceAdd, Nat.reduceLeDiff, Nat.reduceEqDiff, Nat.reduceSub, Nat.reduceMul, reduceCtorEq]
  refine callL hk0 ?_
  simp (config := {maxSteps := 2000000, implicitDefEqProofs := false}) (disch := omega) only [↓reduceIte, go_sem, Int.reduceToNat, Nat.reduceAdd, Nat.reduceLeDiff, Nat.reduceEqDiff, Nat.reduceSub, Nat.reduceMul, reduceCtorEq]
  refine callL ho3 ?_
  simp (config := {maxSteps := 2000000, implicitDefEqProofs := false}) (disch := omega) only [↓reduceIte, go_sem, Int.reduceToNat, Nat.reduceAdd, Nat.reduceLeDiff, Nat.reduceEqDiff, Nat.reduceSub, Nat.reduceMul, reduceCtorEq]
  refine callL hints ?_
  simp (config := {maxSteps := 2000000, implicitDefEqProofs := false}) (disch := omega) only [↓reduceIte, go_sem, Int.reduceToNat, Nat.reduceAdd, Nat.reduceLeDiff, Nat.reduceEqDiff, Nat.reduceSub, Nat.reduceMul, reduceCtorEq]
  refine callL hb0 ?_
  simp (config := {maxSteps := 2000000, implicitDefEqProofs := false}) (disch := omega) only [↓reduceIte, go_sem, Int.reduceToNat, Nat.reduceAdd, Nat.reduceLeDiff, Nat.reduceEqDiff, Nat.reduceSub, Nat.reduceMul, reduceCtorEq]
  refine callL hcn ?_
  simp (config := {maxSteps := 2000000, implicitDefEqProofs := false}) (disch := omega) only [↓reduceIte, go_sem, Int.reduceToNat, Nat.reduceAdd, Nat.reduceLeDiff, Nat.reduceEqDiff, Nat.reduceSub, Nat.reduceMul, reduceCtorEq]
  exact ⟨rfl, rfl⟩
end Go.Proofs.Yticjemfgbfphdaa.X
