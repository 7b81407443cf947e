/- Part of a proof: what functions of the program do. -/
import Derived.Test.YtcpjfjdlifjbhaaXc
namespace Go.Proofs.Ytcpjfjdlifjbhaa.X
open Go Go.AM Go.Proofs
attribute [local go_sem ↓] w_skip w_lbl w_ops w_draw w_pre w_post w_alt w_seq w_cond w_block w_loop w_exit w_ret w_scope w_rfunc l_nil l_cons th_n th_e th_r bk_n bk_r bk_e t_nil t_it t_call i_nil i_one i_grp s_nil s_cons c_call e_mv e_nil e_frz o_mov o_bin o_eq o_un o_conv o_len o_slen o_idx o_aix o_fad o_load o_store o_boxp o_boxo o_boxm o_alloc o_alloca o_nilarr o_build o_bslp o_bslo o_slc o_sslc o_slc3 o_sidx o_mkfn o_ext o_pick o_callf o_callb o_appd o_clear o_mxn o_field o_nilc o_make o_buildm o_boxg o_mkif o_tass o_eqs o_callo k_int k_str k_bool k_grb k_grt k_some k_none k_arr k_lens k_lenf k_lenh k_idxs k_idxf k_idxh k_ld k_loadp k_loadr k_loade k_storer k_storee k_oin k_ois k_slcs k_slcf k_slch k_slc3s k_slc3f k_slc3h k_app2 k_apps k_appf k_apph k_cals k_cald k_cali k_cnb k_cna k_esn k_esc k_efn k_efc k_esh b_add b_sub b_mul b_quo b_rem b_and b_or b_xor b_andNot b_eql b_neq b_lss b_leq b_gtr b_geq b_shl b_shr b_seq b_sne b_slt b_sad q_bool q_str q_nil q_nilf u_not u_neg u_xor f_ret f_nor v_r v_c v_reg v_ob v_set v_put v_so v_sn v_pn v_pc g_nil d_nil p_nil m_mv m_fr z_nil z_cons z_an z_ac g_cons d_cons p_cons y_mov y_bin y_eq y_un y_conv y_len y_slen y_idx y_aix y_fad y_load y_store y_boxp y_boxo y_boxm y_alloc y_alloca y_nilarr y_build y_bslp y_bslo y_slc y_sslc y_slc3 y_sidx y_mkfn y_ext y_pick y_callf y_callb y_appd y_clear y_mxn y_field y_nilc y_make y_buildm y_boxg y_mkif y_tass y_eqs y_callo nb_if
attribute [local go_sem] VL_mk VL2_mk If_t If_f If_not If_and If_or If_dt If_df If_et If_ef If_ne Ck_t Ck_h Opt_s ld_a ld_c renL ren keepR renA idxM invL getObs mapOb renOb allNone putAll fzR fzO fz fzL fzOb frzOk upFrom mapR resOne resA cellsOf oneA oneAL isP isPL okSt kRows kParts fillA setAt bor bor0 bor1 bor2 borC borI key0 key1 key2 keysA fillM cellsM cellM unif ptrA ifOk kPartsM getObsM allNoneM zipU scal0 scalar eqC evNil evNilF List.map_cons List.map_nil List.cons_append List.nil_append List.append_nil List.drop_zero List.drop_succ_cons List.drop_nil List.take_succ_cons List.take_zero List.take_nil List.length_cons List.length_nil List.length_map List.getElem?_map Option.map_some Option.map_none Int.toNat_natCast Int.toNat_zero Int.toNat_one Int.natCast_nonneg List.flatMap_cons List.flatMap_nil List.all_cons List.all_nil Bool.and_true Bool.true_and Bool.and_false Bool.false_and Bool.not_true Bool.not_false beq_self_eq_true nb_self all_nil List.forall_mem_cons tk_map tk_app bs_self bs_dec bq_t bq_f Bool.not_not decide_true decide_false Bool.not_not and_self and_true true_and eq_self List.reverse_cons List.reverse_nil List.getElem?_cons_zero List.getElem?_cons_succ cond_true cond_false List.set_cons_zero List.set_cons_succ Nat.zero_add Nat.add_zero if_true if_false ite_true ite_false implies_true wrap64 wrap8
set_option linter.unusedVariables false
set_option linter.unusedSimpArgs false
set_option maxRecDepth 10000
def Merged (T T' : List Tg) (a b : Nat) : Prop := Mixed T T' a b ∧ SortedT T' a b
structure Pre (T : List Tg) (a m b : Nat) : Prop where
  am : a < m
  mb : m < b
  bl : b ≤ T.length
  left : SortedT T a m
  right : SortedT T m b
  tags : ∀ p q, a ≤ p → p < m → m ≤ q → q < b → T[p]!.2 < T[q]!.2
theorem halfI (i j : Nat) (h : i + j < 4611686018427387904) : IntKind.i64.wrap ((IntKind.u64.wrap ((i : Int) + j)).fdiv (2 ^ min 1 64)) = (((i + j) / 2 : Nat) : Int) := by
  have h1 : IntKind.u64.wrap ((i : Int) + j) = i + j := by
    show (((i : Int) + j) % _) = _
    exact Int.emod_eq_of_lt (by omega) (by show _ < (18446744073709551616 : Int); omega)
  rw [h1, wrap64]
  · rw [show (2 ^ min 1 64 : Int) = 2 from rfl, Int.fdiv_eq_ediv_of_nonneg _ (by decide)]
    omega
  · rw [show (2 ^ min 1 64 : Int) = 2 from rfl, Int.fdiv_eq_ediv_of_nonneg _ (by decide)]
    omega
  · rw [show (2 ^ min 1 64 : Int) = 2 from rfl, Int.fdiv_eq_ediv_of_nonneg _ (by decide)]
    omega
/-- What stood at a stands at k, and what stood between stands one lower. -/
def ShiftL (T T1 : List Tg) (a k : Nat) : Prop := T1.Perm T ∧ ∀ p, p < T.length → T1[p]! = if a ≤ p ∧ p < k then T[p + 1]! else if p = k then T[a]! else T[p]!
theorem ShiftL.step {T T1 : List Tg} {a k : Nat} (h : ShiftL T T1 a k) (hk : a ≤ k) (hl : k + 1 < T.length) : ShiftL T (swpT T1 k (k + 1)) a (k + 1) := by
  have hlen := h.1.length_eq
  refine ⟨(swpT_perm (by omega) (by omega)).trans h.1, fun p hp => ?_⟩
  rw [swpT_get (by omega) (by omega) (by omega)]
  by_cases c1 : p = k + 1
  · rw [if_pos c1, h.2 k (by omega), if_neg (show ¬ (a ≤ k ∧ k < k) by omega), if_pos rfl, if_neg (show ¬ (a ≤ p ∧ p < k + 1) by omega), if_pos c1]
  · rw [if_neg c1]
    by_cases c2 : p = k
    · rw [if_pos c2, h.2 (k + 1) (by omega), if_neg (show ¬ (a ≤ k + 1 ∧ k + 1 < k) by omega), if_neg (show ¬ (k + 1 = k) by omega), if_pos (show a ≤ p ∧ p < k + 1 by omega), c2]
    · rw [if_neg c2, h.2 p hp]
      by_cases c3 : a ≤ p ∧ p < k
      · rw [if_pos c3, if_pos (show a ≤ p ∧ p < k + 1 by omega)]
      · rw [if_neg c3, if_neg c2, if_neg (show ¬ (a ≤ p ∧ p < k + 1) by omega), if_neg c1]
theorem ShiftL.merged {T T1 : List Tg} {a b i : Nat} (h : ShiftL T T1 a (i - 1)) (hi : a + 1 ≤ i) (hib : i ≤ b) (hb : b ≤ T.length) (hs : SortedT T (a + 1) b)
    (hlo : ∀ q, a + 1 ≤ q → q < i → cmpV T[q]!.1 T[a]!.1 < 0) (hhi : ∀ q, i ≤ q → q < b → ¬ cmpV T[q]!.1 T[a]!.1 < 0) (ht : ∀ q, a + 1 ≤ q → q < b → T[a]!.2 < T[q]!.2) : Merged T T1 a b := by
  have hlen := h.1.length_eq
  refine ⟨⟨h.1, fun p hp => ?_⟩, fun p q h1 h2 h3 => ?_⟩
  · by_cases hpl : p < T.length
    · rw [h.2 p hpl, if_neg (by omega), if_neg (by omega)]
    · have e1 : T1[p]? = none := List.getElem?_eq_none (by omega)
      have e2 : T[p]? = none := List.getElem?_eq_none (by omega)
      simp [e1, e2]
  · rw [h.2 p (by omega), h.2 q (by omega)]
    by_cases c1 : p < i - 1
    · rw [if_pos (show a ≤ p ∧ p < i - 1 by omega)]
      by_cases c2 : q < i - 1
      · rw [if_pos (show a ≤ q ∧ q < i - 1 by omega)]
        exact hs (p + 1) (q + 1) (by omega) (by omega) (by omega)
      · rw [if_neg (show ¬ (a ≤ q ∧ q < i - 1) by omega)]
        by_cases c3 : q = i - 1
        · rw [if_pos c3]
          have := hlo (p + 1) (by omega) (by omega)
          rw [cmpV_neg] at this
          unfold ltT
          omega
        · rw [if_neg c3]
          exact hs (p + 1) q (by omega) (by omega) h3
    · rw [if_neg (show ¬ (a ≤ p ∧ p < i - 1) by omega), if_neg (show ¬ (a ≤ q ∧ q < i - 1) by omega), if_neg (show ¬ q = i - 1 by omega)]
      by_cases c3 : p = i - 1
      · rw [if_pos c3]
        have h4 := hhi q (by omega) h3
        have h5 := ht q (by omega) h3
        rw [cmpV_neg] at h4
        unfold ltT
        omega
      · rw [if_neg c3]
        exact hs p q (by omega) h2 h3
/-- What stood at m stands at k, and what stood between stands one higher. -/
def ShiftR (T T1 : List Tg) (m k : Nat) : Prop := T1.Perm T ∧ ∀ p, p < T.length → T1[p]! = if k < p ∧ p ≤ m then T[p - 1]! else if p = k then T[m]! else T[p]!
theorem ShiftR.step {T T1 : List Tg} {m k : Nat} (h : ShiftR T T1 m k) (hk : k ≤ m) (h0 : 0 < k) (hl : m < T.length) : ShiftR T (swpT T1 k (k - 1)) m (k - 1) := by
  have hlen := h.1.length_eq
  refine ⟨(swpT_perm (by omega) (by omega)).trans h.1, fun p hp => ?_⟩
  rw [swpT_get (by omega) (by omega) (by omega)]
  by_cases c1 : p = k - 1
  · rw [if_pos c1, h.2 k (by omega), if_neg (show ¬ (k < k ∧ k ≤ m) by omega), if_pos rfl, if_neg (show ¬ (k - 1 < p ∧ p ≤ m) by omega), if_pos c1]
  · rw [if_neg c1]
    by_cases c2 : p = k
    · rw [if_pos c2, h.2 (k - 1) (by omega), if_neg (show ¬ (k < k - 1 ∧ k - 1 ≤ m) by omega), if_neg (show ¬ (k - 1 = k) by omega), if_pos (show k - 1 < p ∧ p ≤ m by omega), c2]
    · rw [if_neg c2, h.2 p hp]
      by_cases c3 : k < p ∧ p ≤ m
      · rw [if_pos c3, if_pos (show k - 1 < p ∧ p ≤ m by omega)]
      · rw [if_neg c3, if_neg c2, if_neg (show ¬ (k - 1 < p ∧ p ≤ m) by omega), if_neg c1]
theorem ShiftR.merged {T T1 : List Tg} {a m i : Nat} (h : ShiftR T T1 m i) (hi : a ≤ i) (him : i ≤ m) (hb : m < T.length) (hs : SortedT T a m)
    (hlo : ∀ q, a ≤ q → q < i → ¬ cmpV T[m]!.1 T[q]!.1 < 0) (hhi : ∀ q, i ≤ q → q < m → cmpV T[m]!.1 T[q]!.1 < 0) (ht : ∀ q, a ≤ q → q < m → T[q]!.2 < T[m]!.2) : Merged T T1 a (m + 1) := by
  have hlen := h.1.length_eq
  refine ⟨⟨h.1, fun p hp => ?_⟩, fun p q h1 h2 h3 => ?_⟩
  · by_cases hpl : p < T.length
    · rw [h.2 p hpl, if_neg (by omega), if_neg (by omega)]
    · have e1 : T1[p]? = none := List.getElem?_eq_none (by omega)
      have e2 : T[p]? = none := List.getElem?_eq_none (by omega)
      simp [e1, e2]
  · rw [h.2 p (by omega), h.2 q (by omega)]
    by_cases c1 : i < p
    · rw [if_pos (show i < p ∧ p ≤ m by omega), if_pos (show i < q ∧ q ≤ m by omega)]
      exact hs (p - 1) (q - 1) (by omega) (by omega) (by omega)
    · rw [if_neg (show ¬ (i < p ∧ p ≤ m) by omega)]
      by_cases c2 : p = i
      · rw [if_pos c2, if_pos (show i < q ∧ q ≤ m by omega)]
        have := hhi (q - 1) (by omega) (by omega)
        rw [cmpV_neg] at this
        unfold ltT
        omega
      · rw [if_neg c2]
        by_cases c3 : i < q
        · rw [if_pos (show i < q ∧ q ≤ m by omega)]
          exact hs p (q - 1) h1 (by omega) (by omega)
        · rw [if_neg (show ¬ (i < q ∧ q ≤ m) by omega)]
          by_cases c4 : q = i
          · rw [if_pos c4]
            have h4 := hlo p h1 (by omega)
            have h5 := ht p h1 (by omega)
            rw [cmpV_neg] at h4
            unfold ltT
            omega
          · rw [if_neg c4]
            exact hs p q h1 h2 (by omega)
theorem Mixed.mem {T T' : List Tg} {a b : Nat} (h : Mixed T T' a b) (hb : b ≤ T.length) : ∀ k, a ≤ k → k < b → ∃ k', a ≤ k' ∧ k' < b ∧ T'[k]! = T[k']! := by
  intro k h1 h2
  have hl := h.len
  have split : ∀ (X : List Tg), X = X.take a ++ ((X.drop a).take (b - a) ++ X.drop b) := by
    intro X
    have e : X.drop b = (X.drop a).drop (b - a) := by rw [List.drop_drop]; congr 1; omega
    rw [e, List.take_append_drop, List.take_append_drop]
  have e1 : T'.take a = T.take a := by
    apply List.ext_getElem?
    intro i
    rw [List.getElem?_take, List.getElem?_take]
    by_cases c : i < a
    · rw [if_pos c, if_pos c, bangT (by omega), bangT (by omega), h.rest i (by omega)]
    · rw [if_neg c, if_neg c]
  have e2 : T'.drop b = T.drop b := by
    apply List.ext_getElem?
    intro i
    rw [List.getElem?_drop, List.getElem?_drop]
    by_cases c : b + i < T.length
    · rw [bangT (by omega), bangT c, h.rest (b + i) (by omega)]
    · rw [List.getElem?_eq_none (by omega), List.getElem?_eq_none (by omega)]
  have hp := h.perm
  rw [split T', split T, e1, e2, List.perm_append_left_iff, List.perm_append_right_iff] at hp
  have hm : T'[k]! ∈ (T'.drop a).take (b - a) := by
    refine List.mem_of_getElem? (i := k - a) ?_
    rw [List.getElem?_take, if_pos (by omega), List.getElem?_drop, show a + (k - a) = k by omega]
    exact bangT (by omega)
  have hm := hp.mem_iff.1 hm
  obtain ⟨i, hi⟩ := List.getElem?_of_mem hm
  rw [List.getElem?_take] at hi
  split at hi
  · rename_i c
    rw [List.getElem?_drop, bangT (by omega)] at hi
    exact ⟨a + i, by omega, by omega, (Option.some.inj hi).symm⟩
  · cases hi
theorem Rotated.get {T T1 : List Tg} {a m b : Nat} (h : Rotated T T1 a m b) (h1 : a ≤ m) (h2 : m ≤ b) (h3 : b ≤ T.length) {i : Nat} (hi : i < T.length) : T1[i]! = T[rotI a m b i]! := by
  have hl := h.1.length_eq
  have e := h.2 i
  have hr : rotI a m b i < T.length := by
    unfold rotI
    repeat' split
    all_goals omega
  rw [bangT (by omega), bangT hr] at e
  exact Option.some.inj e
theorem rot_pre {T T1 : List Tg} {a m b s mid en : Nat} (hrot : Rotated T T1 s m en) (h1 : a ≤ s) (h2 : s ≤ m) (h3 : m ≤ en) (h4 : en ≤ b) (hb : b ≤ T.length) (hm : mid = s + (en - m)) (hl : SortedT T a m) (hr : SortedT T m b)
    (ht : ∀ p q, a ≤ p → p < m → m ≤ q → q < b → T[p]!.2 < T[q]!.2) :
    SortedT T1 a s ∧ SortedT T1 s mid ∧ SortedT T1 mid en ∧ SortedT T1 en b ∧ (∀ p q, a ≤ p → p < s → s ≤ q → q < mid → T1[p]!.2 < T1[q]!.2) ∧ (∀ p q, mid ≤ p → p < en → en ≤ q → q < b → T1[p]!.2 < T1[q]!.2) := by
  have g : ∀ i, i < b → T1[i]! = T[rotI s m en i]! := fun i hi => hrot.get h2 h3 (by omega) (by omega)
  refine ⟨fun p q e1 e2 e3 => ?_, fun p q e1 e2 e3 => ?_, fun p q e1 e2 e3 => ?_, fun p q e1 e2 e3 => ?_, fun p q e1 e2 e3 e4 => ?_, fun p q e1 e2 e3 e4 => ?_⟩
  · rw [g p (by omega), g q (by omega), show rotI s m en p = p by (unfold rotI; repeat' split) <;> omega, show rotI s m en q = q by (unfold rotI; repeat' split) <;> omega]
    exact hl p q e1 e2 (by omega)
  · rw [g p (by omega), g q (by omega), show rotI s m en p = m + (p - s) by (unfold rotI; repeat' split) <;> omega, show rotI s m en q = m + (q - s) by (unfold rotI; repeat' split) <;> omega]
    exact hr _ _ (by omega) (by omega) (by omega)
  · rw [g p (by omega), g q (by omega), show rotI s m en p = s + (p - mid) by (unfold rotI; repeat' split) <;> omega, show rotI s m en q = s + (q - mid) by (unfold rotI; repeat' split) <;> omega]
    exact hl _ _ (by omega) (by omega) (by omega)
  · rw [g p (by omega), g q (by omega), show rotI s m en p = p by (unfold rotI; repeat' split) <;> omega, show rotI s m en q = q by (unfold rotI; repeat' split) <;> omega]
    exact hr p q (by omega) e2 e3
  · rw [g p (by omega), g q (by omega), show rotI s m en p = p by (unfold rotI; repeat' split) <;> omega, show rotI s m en q = m + (q - s) by (unfold rotI; repeat' split) <;> omega]
    exact ht _ _ e1 (by omega) (by omega) (by omega)
  · rw [g p (by omega), g q (by omega), show rotI s m en p = s + (p - mid) by (unfold rotI; repeat' split) <;> omega, show rotI s m en q = q by (unfold rotI; repeat' split) <;> omega]
    exact ht _ _ (by omega) (by omega) (by omega) e4
theorem sym_final {T T1 T2 T3 : List Tg} {a m b s mid en : Nat} (hrot : Rotated T T1 s m en) (h1 : a ≤ s) (h2 : s ≤ m) (h3 : m ≤ en) (h4 : en ≤ b) (hb : b ≤ T.length) (hm : mid = s + (en - m)) (k2 : Merged T1 T2 a mid) (k3 : Merged T2 T3 mid b)
    (hx : ∀ p q, (a ≤ p ∧ p < s ∨ m ≤ p ∧ p < en) → (s ≤ q ∧ q < m ∨ en ≤ q ∧ q < b) → ltT T[p]! T[q]!) : Merged T T3 a b := by
  have l1 := hrot.1.length_eq
  have l2 := k2.1.len
  have l3 := k3.1.len
  have g : ∀ i, i < T.length → T1[i]! = T[rotI s m en i]! := fun i hi => hrot.get h2 h3 (by omega) hi
  refine ⟨⟨k3.1.perm.trans (k2.1.perm.trans hrot.1), fun i hi => ?_⟩, fun p q e1 e2 e3 => ?_⟩
  · rw [k3.1.rest i (by omega), k2.1.rest i (by omega)]
    by_cases c : i < T.length
    · rw [g i c, show rotI s m en i = i by (unfold rotI; repeat' split) <;> omega]
    · have f1 : T1[i]? = none := List.getElem?_eq_none (by omega)
      have f2 : T[i]? = none := List.getElem?_eq_none (by omega)
      simp [f1, f2]
  · by_cases c1 : q < mid
    · rw [k3.1.rest p (by omega), k3.1.rest q (by omega)]
      exact k2.2 p q e1 e2 c1
    · by_cases c2 : mid ≤ p
      · exact k3.2 p q c2 e2 e3
      · rw [k3.1.rest p (by omega)]
        obtain ⟨p', f1, f2, f3⟩ := k2.1.mem (by omega) p e1 (by omega)
        obtain ⟨q', f4, f5, f6⟩ := k3.1.mem (by omega) q (by omega) e3
        rw [f3, f6, k2.1.rest q' (by omega), g p' (by omega), g q' (by omega)]
        refine hx _ _ ?_ ?_
        · unfold rotI
          repeat' split
          all_goals omega
        · unfold rotI
          repeat' split
          all_goals omega
theorem C63i (v : Nat) (T : List Tg) (a m b L : Nat) (x y z : Int) (ex : x = a) (ey : y = m) (ez : z = b) (eL : L = T.length) (h1 : a < m) (h2 : m < b) (h3 : b ≤ T.length) (hl : T.length < 1000000) :
    Ctr Try.prog 63 [.hs 0 v 0 L, .int .i64 x, .int .i64 y, .int .i64 z, cF] (rowT v T) (fun r o => ∃ T', r = [] ∧ o = rowT v T' ∧ Rotated T T' a m b) := by
  subst ex ey ez eL; exact C63 v T a m b h1 h2 h3 hl
theorem rot_triv (T : List Tg) (a m b : Nat) (h : a = m ∨ m = b) : Rotated T T a m b := by
  refine ⟨List.Perm.refl _, fun i => ?_⟩
  congr 1
  unfold rotI
  repeat' split
  all_goals omega
theorem SortedT.same {T T' : List Tg} {x y : Nat} (h : SortedT T x y) (e : ∀ k, x ≤ k → k < y → T'[k]! = T[k]!) : SortedT T' x y := by
  intro p q e1 e2 e3
  rw [e p e1 (by omega), e q (by omega) e3]
  exact h p q e1 e2 e3
set_option maxHeartbeats 40000000 in
theorem C62 : ∀ (N v : Nat) (T : List Tg) (a m b L : Nat) (x y z : Int), b - a ≤ N → L = T.length → x = a → y = m → z = b → T.length < 1000000 → Pre T a m b →
    Ctr Try.prog 62 [.hs 0 v 0 L, .int .i64 x, .int .i64 y, .int .i64 z, cF] (rowT v T) (fun r o => ∃ T', r = [] ∧ o = rowT v T' ∧ Merged T T' a b) := by
  intro N
  induction N with
  | zero =>
    intro v T a m b L x y z h _ _ _ _ _ hp
    have := hp.am
    have := hp.mb
    omega
  | succ N ih =>
    intro v T a m b L x y z hN eL ex ey ez hl hp
    subst eL ex ey ez
    obtain ⟨ham, hmb, hbl, hleft, hright, htags⟩ := hp
    apply ctr_b A62_ok rfl (Nat.le_of_ble_eq_true rfl)
    unfold A62
    simp only [rowT, initL, Nat.reduceAdd]
    simp (config := {maxSteps := 2000000, implicitDefEqProofs := false}) (disch := omega) only [↓reduceIte, go_sem, Int.reduceToNat, Nat.reduceAdd, Nat.reduceLeDiff, Nat.reduceEqDiff, Nat.reduceSub, Nat.reduceMul, reduceCtorEq]
    refine ifE (fun h1 => ?_) (fun h1 => ?_)
    · have hm : m = a + 1 := by omega
      subst hm
      simp (config := {maxSteps := 2000000, implicitDefEqProofs := false}) (disch := omega) only [↓reduceIte, go_sem, Int.reduceToNat, Nat.reduceAdd, Nat.reduceLeDiff, Nat.reduceEqDiff, Nat.reduceSub, Nat.reduceMul, reduceCtorEq]
      refine loopL (σ := Nat × Nat) (fun s => ⟨[(0, .hs 0 v 0 T.length), (1, .int .i64 a), (4, cF), (10, .int .i64 s.1), (11, .int .i64 s.2)], [(0, .arr v 6 (T.map encT))]⟩)
        (fun s => a + 1 ≤ s.1 ∧ s.1 ≤ s.2 ∧ s.2 ≤ b ∧ (∀ q, a + 1 ≤ q → q < s.1 → cmpV T[q]!.1 T[a]!.1 < 0) ∧ (∀ q, s.2 ≤ q → q < b → ¬ cmpV T[q]!.1 T[a]!.1 < 0)) (fun s => s.2 - s.1) (a + 1, b) (by simp (config := {maxSteps := 2000000, implicitDefEqProofs := false}) (disch := omega) only [↓reduceIte, go_sem, Int.reduceToNat, Nat.reduceAdd, Nat.reduceLeDiff, Nat.reduceEqDiff, Nat.reduceSub, Nat.reduceMul, reduceCtorEq])
        ⟨Nat.le_refl _, by simp only; omega, Nat.le_refl _, fun q e1 e2 => by simp only at e2; omega, fun q e1 e2 => by simp only at e1; omega⟩ ?_
      rintro ⟨i, j⟩ ⟨g1, g2, g3, g4, g5⟩
      simp only at g1 g2 g3 g4 g5
      have hh := halfI i j (by omega)
      simp (config := {maxSteps := 2000000, implicitDefEqProofs := false}) (disch := omega) only [↓reduceIte, go_sem, Int.reduceToNat, Nat.reduceAdd, Nat.reduceLeDiff, Nat.reduceEqDiff, Nat.reduceSub, Nat.reduceMul, reduceCtorEq]
      refine ifD (fun c => ?_) (fun c => ?_)
      · simp (config := {maxSteps := 2000000, implicitDefEqProofs := false}) (disch := omega) only [↓reduceIte, go_sem, Int.reduceToNat, Nat.reduceAdd, Nat.reduceLeDiff, Nat.reduceEqDiff, Nat.reduceSub, Nat.reduceMul, reduceCtorEq, hh]
        have q1 : i ≤ (i + j) / 2 := by omega
        have q2 : (i + j) / 2 < j := by omega
        generalize (i + j) / 2 = h at q1 q2
        have b1 : Option.map encT T[h]? = some (encS T[h]!.1) := by rw [bangT (by omega)]; rfl
        have b2 : Option.map encT T[a]? = some (encS T[a]!.1) := by rw [bangT (by omega)]; rfl
        simp only [encS] at b1 b2
        simp (config := {maxSteps := 2000000, implicitDefEqProofs := false}) (disch := omega) only [↓reduceIte, go_sem, Int.reduceToNat, Nat.reduceAdd, Nat.reduceLeDiff, Nat.reduceEqDiff, Nat.reduceSub, Nat.reduceMul, reduceCtorEq, b1, b2]
        refine callL (C35 T[h]!.1 T[a]!.1) ?_
        simp (config := {maxSteps := 2000000, implicitDefEqProofs := false}) (disch := omega) only [↓reduceIte, go_sem, Int.reduceToNat, Nat.reduceAdd, Nat.reduceLeDiff, Nat.reduceEqDiff, Nat.reduceSub, Nat.reduceMul, reduceCtorEq]
        refine accL (by kernel_rfl) ?_
        simp (config := {maxSteps := 2000000, implicitDefEqProofs := false}) (disch := omega) only [↓reduceIte, go_sem, Int.reduceToNat, Nat.reduceAdd, Nat.reduceLeDiff, Nat.reduceEqDiff, Nat.reduceSub, Nat.reduceMul, reduceCtorEq]
        refine ifD (fun c2 => ?_) (fun c2 => ?_)
        · simp (config := {maxSteps := 2000000, implicitDefEqProofs := false}) (disch := omega) only [↓reduceIte, go_sem, Int.reduceToNat, Nat.reduceAdd, Nat.reduceLeDiff, Nat.reduceEqDiff, Nat.reduceSub, Nat.reduceMul, reduceCtorEq]
          refine ⟨(h + 1, j), by simp, ⟨by simp only; omega, by simp only; omega, g3, fun q e1 e2 => ?_, g5⟩, by simp only; omega⟩
          simp only at e2
          by_cases e3 : q = h
          · rw [e3]; exact c2
          · have := hright q h e1 (by omega) (by omega)
            rw [cmpV_neg] at c2 ⊢
            unfold ltT at this
            omega
        · simp (config := {maxSteps := 2000000, implicitDefEqProofs := false}) (disch := omega) only [↓reduceIte, go_sem, Int.reduceToNat, Nat.reduceAdd, Nat.reduceLeDiff, Nat.reduceEqDiff, Nat.reduceSub, Nat.reduceMul, reduceCtorEq]
          refine ⟨(i, h), by simp, ⟨g1, q1, by simp only; omega, g4, fun q e1 e2 => ?_⟩, by simp only; omega⟩
          simp only at e1
          by_cases e3 : q = h
          · rw [e3]; exact c2
          · have := hright h q (by omega) (by omega) e2
            rw [cmpV_neg] at c2 ⊢
            unfold ltT at this
            omega
      · have hij : i = j := by omega
        subst hij
        simp (config := {maxSteps := 2000000, implicitDefEqProofs := false}) (disch := omega) only [↓reduceIte, go_sem, Int.reduceToNat, Nat.reduceAdd, Nat.reduceLeDiff, Nat.reduceEqDiff, Nat.reduceSub, Nat.reduceMul, reduceCtorEq]
        refine loopL (σ := Nat × List Tg) (fun s => ⟨[(0, .hs 0 v 0 T.length), (10, .int .i64 i), (13, .int .i64 s.1)], [(0, .arr v 6 (s.2.map encT))]⟩)
          (fun s => a ≤ s.1 ∧ s.1 ≤ i - 1 ∧ ShiftL T s.2 a s.1) (fun s => i - s.1) (a, T) (by simp (config := {maxSteps := 2000000, implicitDefEqProofs := false}) (disch := omega) only [↓reduceIte, go_sem, Int.reduceToNat, Nat.reduceAdd, Nat.reduceLeDiff, Nat.reduceEqDiff, Nat.reduceSub, Nat.reduceMul, reduceCtorEq])
          ⟨Nat.le_refl _, by simp only; omega, List.Perm.refl _, fun p hp => by
            simp only
            rw [if_neg (show ¬ (a ≤ p ∧ p < a) by omega)]
            by_cases e : p = a
            · rw [if_pos e, e]
            · rw [if_neg e]⟩ ?_
        rintro ⟨k, T1⟩ ⟨r1, r2, r3⟩
        simp only at r1 r2 r3
        have hlen := r3.1.length_eq
        simp (config := {maxSteps := 2000000, implicitDefEqProofs := false}) (disch := omega) only [↓reduceIte, go_sem, Int.reduceToNat, Nat.reduceAdd, Nat.reduceLeDiff, Nat.reduceEqDiff, Nat.reduceSub, Nat.reduceMul, reduceCtorEq]
        refine ifD (fun c2 => ?_) (fun c2 => ?_)
        · simp (config := {maxSteps := 2000000, implicitDefEqProofs := false}) (disch := omega) only [↓reduceIte, go_sem, Int.reduceToNat, Nat.reduceAdd, Nat.reduceLeDiff, Nat.reduceEqDiff, Nat.reduceSub, Nat.reduceMul, reduceCtorEq]
          have t1 : ((k : Int) + 1).toNat = k + 1 := by omega
          have b1 : Option.map encT T1[k]? = some (encS T1[k]!.1) := by rw [bangT (by omega)]; rfl
          have b2 : Option.map encT T1[k + 1]? = some (encS T1[k + 1]!.1) := by rw [bangT (by omega)]; rfl
          have e1 := rset_get (T := T1) (i := k) (j := k + 1) (y := T1[k + 1]!) (by omega) (bangT (by omega))
          have e2 : ((T1.map encT).set k (encT T1[k + 1]!)).set (k + 1) (encT T1[k]!) = (swpT T1 k (k + 1)).map encT := rset T1 k (k + 1) T1[k]! T1[k + 1]!
          simp only [encT, encS] at b1 b2 e1 e2
          simp (config := {maxSteps := 2000000, implicitDefEqProofs := false}) (disch := omega) only [↓reduceIte, go_sem, Int.reduceToNat, Nat.reduceAdd, Nat.reduceLeDiff, Nat.reduceEqDiff, Nat.reduceSub, Nat.reduceMul, reduceCtorEq, t1, b1, b2, e1, e2]
          refine accL (by kernel_rfl) ?_
          simp (config := {maxSteps := 2000000, implicitDefEqProofs := false}) (disch := omega) only [↓reduceIte, go_sem, Int.reduceToNat, Nat.reduceAdd, Nat.reduceLeDiff, Nat.reduceEqDiff, Nat.reduceSub, Nat.reduceMul, reduceCtorEq, t1, b1, b2, e1, e2]
          exact ⟨(k + 1, swpT T1 k (k + 1)), by simp, ⟨by simp only; omega, by simp only; omega, r3.step r1 (by omega)⟩, by simp only; omega⟩
        · have hk : k = i - 1 := by omega
          subst hk
          simp (config := {maxSteps := 2000000, implicitDefEqProofs := false}) (disch := omega) only [↓reduceIte, go_sem, Int.reduceToNat, Nat.reduceAdd, Nat.reduceLeDiff, Nat.reduceEqDiff, Nat.reduceSub, Nat.reduceMul, reduceCtorEq]
          exact ⟨T1, rfl, r3.merged g1 g3 hbl hright g4 g5 fun q e1 e2 => htags a q (Nat.le_refl _) (by omega) e1 e2⟩
    · simp (config := {maxSteps := 2000000, implicitDefEqProofs := false}) (disch := omega) only [↓reduceIte, go_sem, Int.reduceToNat, Nat.reduceAdd, Nat.reduceLeDiff, Nat.reduceEqDiff, Nat.reduceSub, Nat.reduceMul, reduceCtorEq]
      refine ifE (fun h2 => ?_) (fun h2 => ?_)
      · have hb : b = m + 1 := by omega
        subst hb
        simp (config := {maxSteps := 2000000, implicitDefEqProofs := false}) (disch := omega) only [↓reduceIte, go_sem, Int.reduceToNat, Nat.reduceAdd, Nat.reduceLeDiff, Nat.reduceEqDiff, Nat.reduceSub, Nat.reduceMul, reduceCtorEq]
        refine loopL (σ := Nat × Nat) (fun s => ⟨[(0, .hs 0 v 0 T.length), (2, .int .i64 m), (4, cF), (14, .int .i64 s.1), (15, .int .i64 s.2)], [(0, .arr v 6 (T.map encT))]⟩)
          (fun s => a ≤ s.1 ∧ s.1 ≤ s.2 ∧ s.2 ≤ m ∧ (∀ q, a ≤ q → q < s.1 → ¬ cmpV T[m]!.1 T[q]!.1 < 0) ∧ (∀ q, s.2 ≤ q → q < m → cmpV T[m]!.1 T[q]!.1 < 0)) (fun s => s.2 - s.1) (a, m) (by simp (config := {maxSteps := 2000000, implicitDefEqProofs := false}) (disch := omega) only [↓reduceIte, go_sem, Int.reduceToNat, Nat.reduceAdd, Nat.reduceLeDiff, Nat.reduceEqDiff, Nat.reduceSub, Nat.reduceMul, reduceCtorEq])
          ⟨Nat.le_refl _, by simp only; omega, Nat.le_refl _, fun q e1 e2 => by simp only at e2; omega, fun q e1 e2 => by simp only at e1; omega⟩ ?_
        rintro ⟨i, j⟩ ⟨g1, g2, g3, g4, g5⟩
        simp only at g1 g2 g3 g4 g5
        have hh := halfI i j (by omega)
        simp (config := {maxSteps := 2000000, implicitDefEqProofs := false}) (disch := omega) only [↓reduceIte, go_sem, Int.reduceToNat, Nat.reduceAdd, Nat.reduceLeDiff, Nat.reduceEqDiff, Nat.reduceSub, Nat.reduceMul, reduceCtorEq]
        refine ifD (fun c => ?_) (fun c => ?_)
        · simp (config := {maxSteps := 2000000, implicitDefEqProofs := false}) (disch := omega) only [↓reduceIte, go_sem, Int.reduceToNat, Nat.reduceAdd, Nat.reduceLeDiff, Nat.reduceEqDiff, Nat.reduceSub, Nat.reduceMul, reduceCtorEq, hh]
          have q1 : i ≤ (i + j) / 2 := by omega
          have q2 : (i + j) / 2 < j := by omega
          generalize (i + j) / 2 = h at q1 q2
          have b1 : Option.map encT T[h]? = some (encS T[h]!.1) := by rw [bangT (by omega)]; rfl
          have b2 : Option.map encT T[m]? = some (encS T[m]!.1) := by rw [bangT (by omega)]; rfl
          simp only [encS] at b1 b2
          simp (config := {maxSteps := 2000000, implicitDefEqProofs := false}) (disch := omega) only [↓reduceIte, go_sem, Int.reduceToNat, Nat.reduceAdd, Nat.reduceLeDiff, Nat.reduceEqDiff, Nat.reduceSub, Nat.reduceMul, reduceCtorEq, b1, b2]
          refine callL (C35 T[m]!.1 T[h]!.1) ?_
          simp (config := {maxSteps := 2000000, implicitDefEqProofs := false}) (disch := omega) only [↓reduceIte, go_sem, Int.reduceToNat, Nat.reduceAdd, Nat.reduceLeDiff, Nat.reduceEqDiff, Nat.reduceSub, Nat.reduceMul, reduceCtorEq]
          refine accL (by kernel_rfl) ?_
          simp (config := {maxSteps := 2000000, implicitDefEqProofs := false}) (disch := omega) only [↓reduceIte, go_sem, Int.reduceToNat, Nat.reduceAdd, Nat.reduceLeDiff, Nat.reduceEqDiff, Nat.reduceSub, Nat.reduceMul, reduceCtorEq]
          refine ifD (fun c2 => ?_) (fun c2 => ?_)
          · simp (config := {maxSteps := 2000000, implicitDefEqProofs := false}) (disch := omega) only [↓reduceIte, go_sem, Int.reduceToNat, Nat.reduceAdd, Nat.reduceLeDiff, Nat.reduceEqDiff, Nat.reduceSub, Nat.reduceMul, reduceCtorEq]
            refine ⟨(i, h), by simp, ⟨g1, q1, by simp only; omega, g4, fun q e1 e2 => ?_⟩, by simp only; omega⟩
            simp only at e1
            by_cases e3 : q = h
            · rw [e3]; exact c2
            · have := hleft h q (by omega) (by omega) e2
              rw [cmpV_neg] at c2 ⊢
              unfold ltT at this
              omega
          · simp (config := {maxSteps := 2000000, implicitDefEqProofs := false}) (disch := omega) only [↓reduceIte, go_sem, Int.reduceToNat, Nat.reduceAdd, Nat.reduceLeDiff, Nat.reduceEqDiff, Nat.reduceSub, Nat.reduceMul, reduceCtorEq]
            refine ⟨(h + 1, j), by simp, ⟨by simp only; omega, by simp only; omega, g3, fun q e1 e2 => ?_, g5⟩, by simp only; omega⟩
            simp only at e2
            by_cases e3 : q = h
            · rw [e3]; exact c2
            · have := hleft q h e1 (by omega) (by omega)
              rw [cmpV_neg] at c2 ⊢
              unfold ltT at this
              omega
        · have hij : i = j := by omega
          subst hij
          simp (config := {maxSteps := 2000000, implicitDefEqProofs := false}) (disch := omega) only [↓reduceIte, go_sem, Int.reduceToNat, Nat.reduceAdd, Nat.reduceLeDiff, Nat.reduceEqDiff, Nat.reduceSub, Nat.reduceMul, reduceCtorEq]
          refine loopL (σ := Nat × List Tg) (fun s => ⟨[(0, .hs 0 v 0 T.length), (14, .int .i64 i), (17, .int .i64 s.1)], [(0, .arr v 6 (s.2.map encT))]⟩)
            (fun s => i ≤ s.1 ∧ s.1 ≤ m ∧ ShiftR T s.2 m s.1) (fun s => s.1) (m, T) (by simp (config := {maxSteps := 2000000, implicitDefEqProofs := false}) (disch := omega) only [↓reduceIte, go_sem, Int.reduceToNat, Nat.reduceAdd, Nat.reduceLeDiff, Nat.reduceEqDiff, Nat.reduceSub, Nat.reduceMul, reduceCtorEq])
            ⟨by simp only; omega, Nat.le_refl _, List.Perm.refl _, fun p hp => by
              simp only
              rw [if_neg (show ¬ (m < p ∧ p ≤ m) by omega)]
              by_cases e : p = m
              · rw [if_pos e, e]
              · rw [if_neg e]⟩ ?_
          rintro ⟨k, T1⟩ ⟨r1, r2, r3⟩
          simp only at r1 r2 r3
          have hlen := r3.1.length_eq
          simp (config := {maxSteps := 2000000, implicitDefEqProofs := false}) (disch := omega) only [↓reduceIte, go_sem, Int.reduceToNat, Nat.reduceAdd, Nat.reduceLeDiff, Nat.reduceEqDiff, Nat.reduceSub, Nat.reduceMul, reduceCtorEq]
          refine ifD (fun c2 => ?_) (fun c2 => ?_)
          · simp (config := {maxSteps := 2000000, implicitDefEqProofs := false}) (disch := omega) only [↓reduceIte, go_sem, Int.reduceToNat, Nat.reduceAdd, Nat.reduceLeDiff, Nat.reduceEqDiff, Nat.reduceSub, Nat.reduceMul, reduceCtorEq]
            have t1 : ((k : Int) - 1).toNat = k - 1 := by omega
            have b1 : Option.map encT T1[k]? = some (encS T1[k]!.1) := by rw [bangT (by omega)]; rfl
            have b2 : Option.map encT T1[k - 1]? = some (encS T1[k - 1]!.1) := by rw [bangT (by omega)]; rfl
            have e1 := rset_get (T := T1) (i := k) (j := k - 1) (y := T1[k - 1]!) (by omega) (bangT (by omega))
            have e2 : ((T1.map encT).set k (encT T1[k - 1]!)).set (k - 1) (encT T1[k]!) = (swpT T1 k (k - 1)).map encT := rset T1 k (k - 1) T1[k]! T1[k - 1]!
            simp only [encT, encS] at b1 b2 e1 e2
            simp (config := {maxSteps := 2000000, implicitDefEqProofs := false}) (disch := omega) only [↓reduceIte, go_sem, Int.reduceToNat, Nat.reduceAdd, Nat.reduceLeDiff, Nat.reduceEqDiff, Nat.reduceSub, Nat.reduceMul, reduceCtorEq, t1, b1, b2, e1, e2]
            refine accL (by kernel_rfl) ?_
            simp (config := {maxSteps := 2000000, implicitDefEqProofs := false}) (disch := omega) only [↓reduceIte, go_sem, Int.reduceToNat, Nat.reduceAdd, Nat.reduceLeDiff, Nat.reduceEqDiff, Nat.reduceSub, Nat.reduceMul, reduceCtorEq, t1, b1, b2, e1, e2]
            exact ⟨(k - 1, swpT T1 k (k - 1)), by simp; omega, ⟨by simp only; omega, by simp only; omega, r3.step r2 (by omega) (by omega)⟩, by simp only; omega⟩
          · have hk : k = i := by omega
            subst hk
            simp (config := {maxSteps := 2000000, implicitDefEqProofs := false}) (disch := omega) only [↓reduceIte, go_sem, Int.reduceToNat, Nat.reduceAdd, Nat.reduceLeDiff, Nat.reduceEqDiff, Nat.reduceSub, Nat.reduceMul, reduceCtorEq]
            exact ⟨T1, rfl, r3.merged g1 g3 (by omega) hleft g4 g5 fun q e1 e2 => htags q m e1 e2 (Nat.le_refl _) (by omega)⟩
      · have hh := halfI a b (by omega)
        have hm1 : 2 * ((a + b) / 2) ≤ a + b := by omega
        have hm2 : a + b ≤ 2 * ((a + b) / 2) + 1 := by omega
        generalize (a + b) / 2 = mid at hm1 hm2 hh
        simp (config := {maxSteps := 2000000, implicitDefEqProofs := false}) (disch := omega) only [↓reduceIte, go_sem, Int.reduceToNat, Nat.reduceAdd, Nat.reduceLeDiff, Nat.reduceEqDiff, Nat.reduceSub, Nat.reduceMul, reduceCtorEq, hh]
        refine ifD (fun h3 => ?_) (fun h3 => ?_)
        · simp (config := {maxSteps := 2000000, implicitDefEqProofs := false}) (disch := omega) only [↓reduceIte, go_sem, Int.reduceToNat, Nat.reduceAdd, Nat.reduceLeDiff, Nat.reduceEqDiff, Nat.reduceSub, Nat.reduceMul, reduceCtorEq]
          refine loopL (σ := Nat × Nat) (fun s => ⟨[(0, .hs 0 v 0 T.length), (1, .int .i64 a), (2, .int .i64 m), (3, .int .i64 b), (4, cF), (18, .int .i64 mid), (19, .int .i64 ((mid : Int) + m)), (20, .int .i64 s.1), (21, .int .i64 s.2), (22, .int .i64 ((mid : Int) + m - 1))], [(0, .arr v 6 (T.map encT))]⟩)
            (fun s => (mid + m - b) ≤ s.1 ∧ s.1 ≤ s.2 ∧ s.2 ≤ mid ∧ ((mid + m - b) < s.1 → ¬ cmpV T[mid + m - s.1]!.1 T[s.1 - 1]!.1 < 0) ∧ (s.2 < mid → cmpV T[mid + m - 1 - s.2]!.1 T[s.2]!.1 < 0)) (fun s => s.2 - s.1) ((mid + m - b), mid) (by simp (config := {maxSteps := 2000000, implicitDefEqProofs := false}) (disch := omega) only [↓reduceIte, go_sem, Int.reduceToNat, Nat.reduceAdd, Nat.reduceLeDiff, Nat.reduceEqDiff, Nat.reduceSub, Nat.reduceMul, reduceCtorEq]; try (simp; omega))
            ⟨Nat.le_refl _, by simp only; omega, Nat.le_refl _, fun e => absurd e (Nat.lt_irrefl _), fun e => absurd e (Nat.lt_irrefl _)⟩ ?_
          rintro ⟨s, r⟩ ⟨g1, g2, g3, g4, g5⟩
          simp only at g1 g2 g3 g4 g5
          have hh2 := halfI s r (by omega)
          simp (config := {maxSteps := 2000000, implicitDefEqProofs := false}) (disch := omega) only [↓reduceIte, go_sem, Int.reduceToNat, Nat.reduceAdd, Nat.reduceLeDiff, Nat.reduceEqDiff, Nat.reduceSub, Nat.reduceMul, reduceCtorEq]
          refine ifD (fun c => ?_) (fun c => ?_)
          · simp (config := {maxSteps := 2000000, implicitDefEqProofs := false}) (disch := omega) only [↓reduceIte, go_sem, Int.reduceToNat, Nat.reduceAdd, Nat.reduceLeDiff, Nat.reduceEqDiff, Nat.reduceSub, Nat.reduceMul, reduceCtorEq, hh2]
            have q1 : s ≤ (s + r) / 2 := by omega
            have q2 : (s + r) / 2 < r := by omega
            generalize (s + r) / 2 = h at q1 q2
            have t1 : ((mid : Int) + m - 1 - h).toNat = mid + m - 1 - h := by omega
            have b1 : Option.map encT T[mid + m - 1 - h]? = some (encS T[mid + m - 1 - h]!.1) := by rw [bangT (by omega)]; rfl
            have b2 : Option.map encT T[h]? = some (encS T[h]!.1) := by rw [bangT (by omega)]; rfl
            simp only [encS] at b1 b2
            simp (config := {maxSteps := 2000000, implicitDefEqProofs := false}) (disch := omega) only [↓reduceIte, go_sem, Int.reduceToNat, Nat.reduceAdd, Nat.reduceLeDiff, Nat.reduceEqDiff, Nat.reduceSub, Nat.reduceMul, reduceCtorEq, t1, b1, b2]
            refine callL (C35 T[mid + m - 1 - h]!.1 T[h]!.1) ?_
            simp (config := {maxSteps := 2000000, implicitDefEqProofs := false}) (disch := omega) only [↓reduceIte, go_sem, Int.reduceToNat, Nat.reduceAdd, Nat.reduceLeDiff, Nat.reduceEqDiff, Nat.reduceSub, Nat.reduceMul, reduceCtorEq]
            refine accL (by kernel_rfl) ?_
            simp (config := {maxSteps := 2000000, implicitDefEqProofs := false}) (disch := omega) only [↓reduceIte, go_sem, Int.reduceToNat, Nat.reduceAdd, Nat.reduceLeDiff, Nat.reduceEqDiff, Nat.reduceSub, Nat.reduceMul, reduceCtorEq]
            refine ifD (fun c2 => ?_) (fun c2 => ?_)
            · simp (config := {maxSteps := 2000000, implicitDefEqProofs := false}) (disch := omega) only [↓reduceIte, go_sem, Int.reduceToNat, Nat.reduceAdd, Nat.reduceLeDiff, Nat.reduceEqDiff, Nat.reduceSub, Nat.reduceMul, reduceCtorEq]
              exact ⟨(s, h), by simp, ⟨g1, q1, by simp only; omega, g4, fun _ => c2⟩, by simp only; omega⟩
            · simp (config := {maxSteps := 2000000, implicitDefEqProofs := false}) (disch := omega) only [↓reduceIte, go_sem, Int.reduceToNat, Nat.reduceAdd, Nat.reduceLeDiff, Nat.reduceEqDiff, Nat.reduceSub, Nat.reduceMul, reduceCtorEq]
              exact ⟨(h + 1, r), by simp, ⟨by simp only; omega, by simp only; omega, g3, fun _ => by
                simp only [Nat.add_sub_cancel]
                rw [show mid + m - (h + 1) = mid + m - 1 - h by omega]
                exact c2, g5⟩, by simp only; omega⟩
          · simp (config := {maxSteps := 2000000, implicitDefEqProofs := false}) (disch := omega) only [↓reduceIte, go_sem, Int.reduceToNat, Nat.reduceAdd, Nat.reduceLeDiff, Nat.reduceEqDiff, Nat.reduceSub, Nat.reduceMul, reduceCtorEq]
            have hsr : s = r := by omega
            subst hsr
            obtain ⟨en, hen⟩ : ∃ en, mid + m = en + s := ⟨mid + m - s, by omega⟩
            have hen2 : mid + m - s = en := by omega
            have hx : ∀ p q, (a ≤ p ∧ p < s ∨ m ≤ p ∧ p < en) → (s ≤ q ∧ q < m ∨ en ≤ q ∧ q < b) → ltT T[p]! T[q]! := by
              have fst : ∀ p q, a ≤ p → p < s → en ≤ q → q < b → ltT T[p]! T[q]! := by
                intro p q e1 e2 e3 e4
                have hc := g4 (by omega)
                rw [hen2, cmpV_neg] at hc
                have ht := htags (s - 1) en (by omega) (by omega) (by omega) (by omega)
                have h5 : ltT T[s - 1]! T[en]! := by unfold ltT; omega
                have h6 : p = s - 1 ∨ ltT T[p]! T[s - 1]! := by
                  by_cases e : p = s - 1
                  · exact .inl e
                  · exact .inr (hleft p (s - 1) e1 (by omega) (by omega))
                have h7 : q = en ∨ ltT T[en]! T[q]! := by
                  by_cases e : q = en
                  · exact .inl e
                  · exact .inr (hright en q (by omega) (by omega) e4)
                rcases h6 with rfl | h6 <;> rcases h7 with rfl | h7
                · exact h5
                · exact ltT_trans h5 h7
                · exact ltT_trans h6 h5
                · exact ltT_trans h6 (ltT_trans h5 h7)
              have snd : ∀ p q, m ≤ p → p < en → s ≤ q → q < m → ltT T[p]! T[q]! := by
                intro p q e1 e2 e3 e4
                have hc := g5 (by omega)
                rw [show mid + m - 1 - s = en - 1 by omega, cmpV_neg] at hc
                have h5 : ltT T[en - 1]! T[s]! := by unfold ltT; omega
                have h6 : p = en - 1 ∨ ltT T[p]! T[en - 1]! := by
                  by_cases e : p = en - 1
                  · exact .inl e
                  · exact .inr (hright p (en - 1) e1 (by omega) (by omega))
                have h7 : q = s ∨ ltT T[s]! T[q]! := by
                  by_cases e : q = s
                  · exact .inl e
                  · exact .inr (hleft s q (by omega) (by omega) e4)
                rcases h6 with rfl | h6 <;> rcases h7 with rfl | h7
                · exact h5
                · exact ltT_trans h5 h7
                · exact ltT_trans h6 h5
                · exact ltT_trans h6 (ltT_trans h5 h7)
              intro p q e1 e2
              rcases e1 with e1 | e1 <;> rcases e2 with e2 | e2
              · exact hleft p q (by omega) (by omega) (by omega)
              · exact fst p q (by omega) (by omega) (by omega) (by omega)
              · exact snd p q (by omega) (by omega) (by omega) (by omega)
              · exact hright p q (by omega) (by omega) (by omega)
            have c1 : s = m ∨ m = en ∨ (s < m ∧ m < en) := by omega
            have c2 : a = s ∨ s = mid ∨ (a < s ∧ s < mid) := by omega
            have c3 : mid = en ∨ en = b ∨ (mid < en ∧ en < b) := by omega
            rcases c1 with c1 | c1 | c1 <;> rcases c2 with c2 | c2 | c2 <;> rcases c3 with c3 | c3 | c3
            · first
              | (exfalso; omega)
              | (simp (config := {maxSteps := 2000000, implicitDefEqProofs := false}) (disch := omega) only [↓reduceIte, go_sem, Int.reduceToNat, Nat.reduceAdd, Nat.reduceLeDiff, Nat.reduceEqDiff, Nat.reduceSub, Nat.reduceMul, reduceCtorEq]
                 have hR : Rotated T T s m en := rot_triv T s m en (.inl c1)
                 obtain ⟨p1, p2, p3, p4, p5, p6⟩ := rot_pre hR (by omega) (by omega) (by omega) (by omega) hbl (show mid = s + (en - m) by omega) hleft hright htags
                 have l1 := hR.1.length_eq
                 have k2 : Merged T T a mid := ⟨.refl _ _ _, by rw [c2]; exact p2⟩
                 have l2 := k2.1.len
                 have w : ∀ k, mid ≤ k → T[k]! = T[k]! := fun k hk => k2.1.rest k (by omega)
                 have s3 : SortedT T mid en := p3.same fun k e1 e2 => w k e1
                 have s4 : SortedT T en b := p4.same fun k e1 e2 => w k (by omega)
                 have k3 : Merged T T mid b := ⟨.refl _ _ _, by rw [c3]; exact s4⟩
                 exact ⟨T, rfl, sym_final hR (by omega) (by omega) (by omega) (by omega) hbl (by omega) k2 k3 hx⟩)
            · first
              | (exfalso; omega)
              | (simp (config := {maxSteps := 2000000, implicitDefEqProofs := false}) (disch := omega) only [↓reduceIte, go_sem, Int.reduceToNat, Nat.reduceAdd, Nat.reduceLeDiff, Nat.reduceEqDiff, Nat.reduceSub, Nat.reduceMul, reduceCtorEq]
                 have hR : Rotated T T s m en := rot_triv T s m en (.inl c1)
                 obtain ⟨p1, p2, p3, p4, p5, p6⟩ := rot_pre hR (by omega) (by omega) (by omega) (by omega) hbl (show mid = s + (en - m) by omega) hleft hright htags
                 have l1 := hR.1.length_eq
                 have k2 : Merged T T a mid := ⟨.refl _ _ _, by rw [c2]; exact p2⟩
                 have l2 := k2.1.len
                 have w : ∀ k, mid ≤ k → T[k]! = T[k]! := fun k hk => k2.1.rest k (by omega)
                 have s3 : SortedT T mid en := p3.same fun k e1 e2 => w k e1
                 have s4 : SortedT T en b := p4.same fun k e1 e2 => w k (by omega)
                 have k3 : Merged T T mid b := ⟨.refl _ _ _, by rw [← c3]; exact s3⟩
                 exact ⟨T, rfl, sym_final hR (by omega) (by omega) (by omega) (by omega) hbl (by omega) k2 k3 hx⟩)
            · first
              | (exfalso; omega)
              | (simp (config := {maxSteps := 2000000, implicitDefEqProofs := false}) (disch := omega) only [↓reduceIte, go_sem, Int.reduceToNat, Nat.reduceAdd, Nat.reduceLeDiff, Nat.reduceEqDiff, Nat.reduceSub, Nat.reduceMul, reduceCtorEq]
                 have hR : Rotated T T s m en := rot_triv T s m en (.inl c1)
                 obtain ⟨p1, p2, p3, p4, p5, p6⟩ := rot_pre hR (by omega) (by omega) (by omega) (by omega) hbl (show mid = s + (en - m) by omega) hleft hright htags
                 have l1 := hR.1.length_eq
                 have k2 : Merged T T a mid := ⟨.refl _ _ _, by rw [c2]; exact p2⟩
                 have l2 := k2.1.len
                 have w : ∀ k, mid ≤ k → T[k]! = T[k]! := fun k hk => k2.1.rest k (by omega)
                 have s3 : SortedT T mid en := p3.same fun k e1 e2 => w k e1
                 have s4 : SortedT T en b := p4.same fun k e1 e2 => w k (by omega)
                 refine callO (ih v T mid en b _ _ _ _ (by omega) (by omega) rfl (by omega) rfl (by omega) ⟨c3.1, c3.2, by omega, s3, s4, fun p q e1 e2 e3 e4 => by rw [w p e1, w q (by omega)]; exact p6 p q e1 e2 e3 e4⟩) ?_
                 rintro r o ⟨T3, rfl, rfl, k3⟩
                 simp (config := {maxSteps := 2000000, implicitDefEqProofs := false}) (disch := omega) only [↓reduceIte, go_sem, Int.reduceToNat, Nat.reduceAdd, Nat.reduceLeDiff, Nat.reduceEqDiff, Nat.reduceSub, Nat.reduceMul, reduceCtorEq, rowT]
                 exact ⟨T3, rfl, sym_final hR (by omega) (by omega) (by omega) (by omega) hbl (by omega) k2 k3 hx⟩)
            · first
              | (exfalso; omega)
              | (simp (config := {maxSteps := 2000000, implicitDefEqProofs := false}) (disch := omega) only [↓reduceIte, go_sem, Int.reduceToNat, Nat.reduceAdd, Nat.reduceLeDiff, Nat.reduceEqDiff, Nat.reduceSub, Nat.reduceMul, reduceCtorEq]
                 have hR : Rotated T T s m en := rot_triv T s m en (.inl c1)
                 obtain ⟨p1, p2, p3, p4, p5, p6⟩ := rot_pre hR (by omega) (by omega) (by omega) (by omega) hbl (show mid = s + (en - m) by omega) hleft hright htags
                 have l1 := hR.1.length_eq
                 have k2 : Merged T T a mid := ⟨.refl _ _ _, by rw [← c2]; exact p1⟩
                 have l2 := k2.1.len
                 have w : ∀ k, mid ≤ k → T[k]! = T[k]! := fun k hk => k2.1.rest k (by omega)
                 have s3 : SortedT T mid en := p3.same fun k e1 e2 => w k e1
                 have s4 : SortedT T en b := p4.same fun k e1 e2 => w k (by omega)
                 have k3 : Merged T T mid b := ⟨.refl _ _ _, by rw [c3]; exact s4⟩
                 exact ⟨T, rfl, sym_final hR (by omega) (by omega) (by omega) (by omega) hbl (by omega) k2 k3 hx⟩)
            · first
              | (exfalso; omega)
              | (simp (config := {maxSteps := 2000000, implicitDefEqProofs := false}) (disch := omega) only [↓reduceIte, go_sem, Int.reduceToNat, Nat.reduceAdd, Nat.reduceLeDiff, Nat.reduceEqDiff, Nat.reduceSub, Nat.reduceMul, reduceCtorEq]
                 have hR : Rotated T T s m en := rot_triv T s m en (.inl c1)
                 obtain ⟨p1, p2, p3, p4, p5, p6⟩ := rot_pre hR (by omega) (by omega) (by omega) (by omega) hbl (show mid = s + (en - m) by omega) hleft hright htags
                 have l1 := hR.1.length_eq
                 have k2 : Merged T T a mid := ⟨.refl _ _ _, by rw [← c2]; exact p1⟩
                 have l2 := k2.1.len
                 have w : ∀ k, mid ≤ k → T[k]! = T[k]! := fun k hk => k2.1.rest k (by omega)
                 have s3 : SortedT T mid en := p3.same fun k e1 e2 => w k e1
                 have s4 : SortedT T en b := p4.same fun k e1 e2 => w k (by omega)
                 have k3 : Merged T T mid b := ⟨.refl _ _ _, by rw [← c3]; exact s3⟩
                 exact ⟨T, rfl, sym_final hR (by omega) (by omega) (by omega) (by omega) hbl (by omega) k2 k3 hx⟩)
            · first
              | (exfalso; omega)
              | (simp (config := {maxSteps := 2000000, implicitDefEqProofs := false}) (disch := omega) only [↓reduceIte, go_sem, Int.reduceToNat, Nat.reduceAdd, Nat.reduceLeDiff, Nat.reduceEqDiff, Nat.reduceSub, Nat.reduceMul, reduceCtorEq]
                 have hR : Rotated T T s m en := rot_triv T s m en (.inl c1)
                 obtain ⟨p1, p2, p3, p4, p5, p6⟩ := rot_pre hR (by omega) (by omega) (by omega) (by omega) hbl (show mid = s + (en - m) by omega) hleft hright htags
                 have l1 := hR.1.length_eq
                 have k2 : Merged T T a mid := ⟨.refl _ _ _, by rw [← c2]; exact p1⟩
                 have l2 := k2.1.len
                 have w : ∀ k, mid ≤ k → T[k]! = T[k]! := fun k hk => k2.1.rest k (by omega)
                 have s3 : SortedT T mid en := p3.same fun k e1 e2 => w k e1
                 have s4 : SortedT T en b := p4.same fun k e1 e2 => w k (by omega)
                 refine callO (ih v T mid en b _ _ _ _ (by omega) (by omega) rfl (by omega) rfl (by omega) ⟨c3.1, c3.2, by omega, s3, s4, fun p q e1 e2 e3 e4 => by rw [w p e1, w q (by omega)]; exact p6 p q e1 e2 e3 e4⟩) ?_
                 rintro r o ⟨T3, rfl, rfl, k3⟩
                 simp (config := {maxSteps := 2000000, implicitDefEqProofs := false}) (disch := omega) only [↓reduceIte, go_sem, Int.reduceToNat, Nat.reduceAdd, Nat.reduceLeDiff, Nat.reduceEqDiff, Nat.reduceSub, Nat.reduceMul, reduceCtorEq, rowT]
                 exact ⟨T3, rfl, sym_final hR (by omega) (by omega) (by omega) (by omega) hbl (by omega) k2 k3 hx⟩)
            · first
              | (exfalso; omega)
              | (simp (config := {maxSteps := 2000000, implicitDefEqProofs := false}) (disch := omega) only [↓reduceIte, go_sem, Int.reduceToNat, Nat.reduceAdd, Nat.reduceLeDiff, Nat.reduceEqDiff, Nat.reduceSub, Nat.reduceMul, reduceCtorEq]
                 have hR : Rotated T T s m en := rot_triv T s m en (.inl c1)
                 obtain ⟨p1, p2, p3, p4, p5, p6⟩ := rot_pre hR (by omega) (by omega) (by omega) (by omega) hbl (show mid = s + (en - m) by omega) hleft hright htags
                 have l1 := hR.1.length_eq
                 refine callO (ih v T a s mid _ _ _ _ (by omega) l1.symm rfl rfl rfl (by omega) ⟨c2.1, c2.2, by omega, p1, p2, p5⟩) ?_
                 rintro r o ⟨T2, rfl, rfl, k2⟩
                 simp (config := {maxSteps := 2000000, implicitDefEqProofs := false}) (disch := omega) only [↓reduceIte, go_sem, Int.reduceToNat, Nat.reduceAdd, Nat.reduceLeDiff, Nat.reduceEqDiff, Nat.reduceSub, Nat.reduceMul, reduceCtorEq, rowT]
                 have l2 := k2.1.len
                 have w : ∀ k, mid ≤ k → T2[k]! = T[k]! := fun k hk => k2.1.rest k (by omega)
                 have s3 : SortedT T2 mid en := p3.same fun k e1 e2 => w k e1
                 have s4 : SortedT T2 en b := p4.same fun k e1 e2 => w k (by omega)
                 have k3 : Merged T2 T2 mid b := ⟨.refl _ _ _, by rw [c3]; exact s4⟩
                 exact ⟨T2, rfl, sym_final hR (by omega) (by omega) (by omega) (by omega) hbl (by omega) k2 k3 hx⟩)
            · first
              | (exfalso; omega)
              | (simp (config := {maxSteps := 2000000, implicitDefEqProofs := false}) (disch := omega) only [↓reduceIte, go_sem, Int.reduceToNat, Nat.reduceAdd, Nat.reduceLeDiff, Nat.reduceEqDiff, Nat.reduceSub, Nat.reduceMul, reduceCtorEq]
                 have hR : Rotated T T s m en := rot_triv T s m en (.inl c1)
                 obtain ⟨p1, p2, p3, p4, p5, p6⟩ := rot_pre hR (by omega) (by omega) (by omega) (by omega) hbl (show mid = s + (en - m) by omega) hleft hright htags
                 have l1 := hR.1.length_eq
                 refine callO (ih v T a s mid _ _ _ _ (by omega) l1.symm rfl rfl rfl (by omega) ⟨c2.1, c2.2, by omega, p1, p2, p5⟩) ?_
                 rintro r o ⟨T2, rfl, rfl, k2⟩
                 simp (config := {maxSteps := 2000000, implicitDefEqProofs := false}) (disch := omega) only [↓reduceIte, go_sem, Int.reduceToNat, Nat.reduceAdd, Nat.reduceLeDiff, Nat.reduceEqDiff, Nat.reduceSub, Nat.reduceMul, reduceCtorEq, rowT]
                 have l2 := k2.1.len
                 have w : ∀ k, mid ≤ k → T2[k]! = T[k]! := fun k hk => k2.1.rest k (by omega)
                 have s3 : SortedT T2 mid en := p3.same fun k e1 e2 => w k e1
                 have s4 : SortedT T2 en b := p4.same fun k e1 e2 => w k (by omega)
                 have k3 : Merged T2 T2 mid b := ⟨.refl _ _ _, by rw [← c3]; exact s3⟩
                 exact ⟨T2, rfl, sym_final hR (by omega) (by omega) (by omega) (by omega) hbl (by omega) k2 k3 hx⟩)
            · first
              | (exfalso; omega)
              | (simp (config := {maxSteps := 2000000, implicitDefEqProofs := false}) (disch := omega) only [↓reduceIte, go_sem, Int.reduceToNat, Nat.reduceAdd, Nat.reduceLeDiff, Nat.reduceEqDiff, Nat.reduceSub, Nat.reduceMul, reduceCtorEq]
                 have hR : Rotated T T s m en := rot_triv T s m en (.inl c1)
                 obtain ⟨p1, p2, p3, p4, p5, p6⟩ := rot_pre hR (by omega) (by omega) (by omega) (by omega) hbl (show mid = s + (en - m) by omega) hleft hright htags
                 have l1 := hR.1.length_eq
                 refine callO (ih v T a s mid _ _ _ _ (by omega) l1.symm rfl rfl rfl (by omega) ⟨c2.1, c2.2, by omega, p1, p2, p5⟩) ?_
                 rintro r o ⟨T2, rfl, rfl, k2⟩
                 simp (config := {maxSteps := 2000000, implicitDefEqProofs := false}) (disch := omega) only [↓reduceIte, go_sem, Int.reduceToNat, Nat.reduceAdd, Nat.reduceLeDiff, Nat.reduceEqDiff, Nat.reduceSub, Nat.reduceMul, reduceCtorEq, rowT]
                 have l2 := k2.1.len
                 have w : ∀ k, mid ≤ k → T2[k]! = T[k]! := fun k hk => k2.1.rest k (by omega)
                 have s3 : SortedT T2 mid en := p3.same fun k e1 e2 => w k e1
                 have s4 : SortedT T2 en b := p4.same fun k e1 e2 => w k (by omega)
                 refine callO (ih v T2 mid en b _ _ _ _ (by omega) (by omega) rfl (by omega) rfl (by omega) ⟨c3.1, c3.2, by omega, s3, s4, fun p q e1 e2 e3 e4 => by rw [w p e1, w q (by omega)]; exact p6 p q e1 e2 e3 e4⟩) ?_
                 rintro r o ⟨T3, rfl, rfl, k3⟩
                 simp (config := {maxSteps := 2000000, implicitDefEqProofs := false}) (disch := omega) only [↓reduceIte, go_sem, Int.reduceToNat, Nat.reduceAdd, Nat.reduceLeDiff, Nat.reduceEqDiff, Nat.reduceSub, Nat.reduceMul, reduceCtorEq, rowT]
                 exact ⟨T3, rfl, sym_final hR (by omega) (by omega) (by omega) (by omega) hbl (by omega) k2 k3 hx⟩)
            · first
              | (exfalso; omega)
              | (simp (config := {maxSteps := 2000000, implicitDefEqProofs := false}) (disch := omega) only [↓reduceIte, go_sem, Int.reduceToNat, Nat.reduceAdd, Nat.reduceLeDiff, Nat.reduceEqDiff, Nat.reduceSub, Nat.reduceMul, reduceCtorEq]
                 have hR : Rotated T T s m en := rot_triv T s m en (.inr c1)
                 obtain ⟨p1, p2, p3, p4, p5, p6⟩ := rot_pre hR (by omega) (by omega) (by omega) (by omega) hbl (show mid = s + (en - m) by omega) hleft hright htags
                 have l1 := hR.1.length_eq
                 have k2 : Merged T T a mid := ⟨.refl _ _ _, by rw [c2]; exact p2⟩
                 have l2 := k2.1.len
                 have w : ∀ k, mid ≤ k → T[k]! = T[k]! := fun k hk => k2.1.rest k (by omega)
                 have s3 : SortedT T mid en := p3.same fun k e1 e2 => w k e1
                 have s4 : SortedT T en b := p4.same fun k e1 e2 => w k (by omega)
                 have k3 : Merged T T mid b := ⟨.refl _ _ _, by rw [c3]; exact s4⟩
                 exact ⟨T, rfl, sym_final hR (by omega) (by omega) (by omega) (by omega) hbl (by omega) k2 k3 hx⟩)
            · first
              | (exfalso; omega)
              | (simp (config := {maxSteps := 2000000, implicitDefEqProofs := false}) (disch := omega) only [↓reduceIte, go_sem, Int.reduceToNat, Nat.reduceAdd, Nat.reduceLeDiff, Nat.reduceEqDiff, Nat.reduceSub, Nat.reduceMul, reduceCtorEq]
                 have hR : Rotated T T s m en := rot_triv T s m en (.inr c1)
                 obtain ⟨p1, p2, p3, p4, p5, p6⟩ := rot_pre hR (by omega) (by omega) (by omega) (by omega) hbl (show mid = s + (en - m) by omega) hleft hright htags
                 have l1 := hR.1.length_eq
                 have k2 : Merged T T a mid := ⟨.refl _ _ _, by rw [c2]; exact p2⟩
                 have l2 := k2.1.len
                 have w : ∀ k, mid ≤ k → T[k]! = T[k]! := fun k hk => k2.1.rest k (by omega)
                 have s3 : SortedT T mid en := p3.same fun k e1 e2 => w k e1
                 have s4 : SortedT T en b := p4.same fun k e1 e2 => w k (by omega)
                 have k3 : Merged T T mid b := ⟨.refl _ _ _, by rw [← c3]; exact s3⟩
                 exact ⟨T, rfl, sym_final hR (by omega) (by omega) (by omega) (by omega) hbl (by omega) k2 k3 hx⟩)
            · first
              | (exfalso; omega)
              | (simp (config := {maxSteps := 2000000, implicitDefEqProofs := false}) (disch := omega) only [↓reduceIte, go_sem, Int.reduceToNat, Nat.reduceAdd, Nat.reduceLeDiff, Nat.reduceEqDiff, Nat.reduceSub, Nat.reduceMul, reduceCtorEq]
                 have hR : Rotated T T s m en := rot_triv T s m en (.inr c1)
                 obtain ⟨p1, p2, p3, p4, p5, p6⟩ := rot_pre hR (by omega) (by omega) (by omega) (by omega) hbl (show mid = s + (en - m) by omega) hleft hright htags
                 have l1 := hR.1.length_eq
                 have k2 : Merged T T a mid := ⟨.refl _ _ _, by rw [c2]; exact p2⟩
                 have l2 := k2.1.len
                 have w : ∀ k, mid ≤ k → T[k]! = T[k]! := fun k hk => k2.1.rest k (by omega)
                 have s3 : SortedT T mid en := p3.same fun k e1 e2 => w k e1
                 have s4 : SortedT T en b := p4.same fun k e1 e2 => w k (by omega)
                 refine callO (ih v T mid en b _ _ _ _ (by omega) (by omega) rfl (by omega) rfl (by omega) ⟨c3.1, c3.2, by omega, s3, s4, fun p q e1 e2 e3 e4 => by rw [w p e1, w q (by omega)]; exact p6 p q e1 e2 e3 e4⟩) ?_
                 rintro r o ⟨T3, rfl, rfl, k3⟩
                 simp (config := {maxSteps := 2000000, implicitDefEqProofs := false}) (disch := omega) only [↓reduceIte, go_sem, Int.reduceToNat, Nat.reduceAdd, Nat.reduceLeDiff, Nat.reduceEqDiff, Nat.reduceSub, Nat.reduceMul, reduceCtorEq, rowT]
                 exact ⟨T3, rfl, sym_final hR (by omega) (by omega) (by omega) (by omega) hbl (by omega) k2 k3 hx⟩)
            · first
              | (exfalso; omega)
              | (simp (config := {maxSteps := 2000000, implicitDefEqProofs := false}) (disch := omega) only [↓reduceIte, go_sem, Int.reduceToNat, Nat.reduceAdd, Nat.reduceLeDiff, Nat.reduceEqDiff, Nat.reduceSub, Nat.reduceMul, reduceCtorEq]
                 have hR : Rotated T T s m en := rot_triv T s m en (.inr c1)
                 obtain ⟨p1, p2, p3, p4, p5, p6⟩ := rot_pre hR (by omega) (by omega) (by omega) (by omega) hbl (show mid = s + (en - m) by omega) hleft hright htags
                 have l1 := hR.1.length_eq
                 have k2 : Merged T T a mid := ⟨.refl _ _ _, by rw [← c2]; exact p1⟩
                 have l2 := k2.1.len
                 have w : ∀ k, mid ≤ k → T[k]! = T[k]! := fun k hk => k2.1.rest k (by omega)
                 have s3 : SortedT T mid en := p3.same fun k e1 e2 => w k e1
                 have s4 : SortedT T en b := p4.same fun k e1 e2 => w k (by omega)
                 have k3 : Merged T T mid b := ⟨.refl _ _ _, by rw [c3]; exact s4⟩
                 exact ⟨T, rfl, sym_final hR (by omega) (by omega) (by omega) (by omega) hbl (by omega) k2 k3 hx⟩)
            · first
              | (exfalso; omega)
              | (simp (config := {maxSteps := 2000000, implicitDefEqProofs := false}) (disch := omega) only [↓reduceIte, go_sem, Int.reduceToNat, Nat.reduceAdd, Nat.reduceLeDiff, Nat.reduceEqDiff, Nat.reduceSub, Nat.reduceMul, reduceCtorEq]
                 have hR : Rotated T T s m en := rot_triv T s m en (.inr c1)
                 obtain ⟨p1, p2, p3, p4, p5, p6⟩ := rot_pre hR (by omega) (by omega) (by omega) (by omega) hbl (show mid = s + (en - m) by omega) hleft hright htags
                 have l1 := hR.1.length_eq
                 have k2 : Merged T T a mid := ⟨.refl _ _ _, by rw [← c2]; exact p1⟩
                 have l2 := k2.1.len
                 have w : ∀ k, mid ≤ k → T[k]! = T[k]! := fun k hk => k2.1.rest k (by omega)
                 have s3 : SortedT T mid en := p3.same fun k e1 e2 => w k e1
                 have s4 : SortedT T en b := p4.same fun k e1 e2 => w k (by omega)
                 have k3 : Merged T T mid b := ⟨.refl _ _ _, by rw [← c3]; exact s3⟩
                 exact ⟨T, rfl, sym_final hR (by omega) (by omega) (by omega) (by omega) hbl (by omega) k2 k3 hx⟩)
            · first
              | (exfalso; omega)
              | (simp (config := {maxSteps := 2000000, implicitDefEqProofs := false}) (disch := omega) only [↓reduceIte, go_sem, Int.reduceToNat, Nat.reduceAdd, Nat.reduceLeDiff, Nat.reduceEqDiff, Nat.reduceSub, Nat.reduceMul, reduceCtorEq]
                 have hR : Rotated T T s m en := rot_triv T s m en (.inr c1)
                 obtain ⟨p1, p2, p3, p4, p5, p6⟩ := rot_pre hR (by omega) (by omega) (by omega) (by omega) hbl (show mid = s + (en - m) by omega) hleft hright htags
                 have l1 := hR.1.length_eq
                 have k2 : Merged T T a mid := ⟨.refl _ _ _, by rw [← c2]; exact p1⟩
                 have l2 := k2.1.len
                 have w : ∀ k, mid ≤ k → T[k]! = T[k]! := fun k hk => k2.1.rest k (by omega)
                 have s3 : SortedT T mid en := p3.same fun k e1 e2 => w k e1
                 have s4 : SortedT T en b := p4.same fun k e1 e2 => w k (by omega)
                 refine callO (ih v T mid en b _ _ _ _ (by omega) (by omega) rfl (by omega) rfl (by omega) ⟨c3.1, c3.2, by omega, s3, s4, fun p q e1 e2 e3 e4 => by rw [w p e1, w q (by omega)]; exact p6 p q e1 e2 e3 e4⟩) ?_
                 rintro r o ⟨T3, rfl, rfl, k3⟩
                 simp (config := {maxSteps := 2000000, implicitDefEqProofs := false}) (disch := omega) only [↓reduceIte, go_sem, Int.reduceToNat, Nat.reduceAdd, Nat.reduceLeDiff, Nat.reduceEqDiff, Nat.reduceSub, Nat.reduceMul, reduceCtorEq, rowT]
                 exact ⟨T3, rfl, sym_final hR (by omega) (by omega) (by omega) (by omega) hbl (by omega) k2 k3 hx⟩)
            · first
              | (exfalso; omega)
              | (simp (config := {maxSteps := 2000000, implicitDefEqProofs := false}) (disch := omega) only [↓reduceIte, go_sem, Int.reduceToNat, Nat.reduceAdd, Nat.reduceLeDiff, Nat.reduceEqDiff, Nat.reduceSub, Nat.reduceMul, reduceCtorEq]
                 have hR : Rotated T T s m en := rot_triv T s m en (.inr c1)
                 obtain ⟨p1, p2, p3, p4, p5, p6⟩ := rot_pre hR (by omega) (by omega) (by omega) (by omega) hbl (show mid = s + (en - m) by omega) hleft hright htags
                 have l1 := hR.1.length_eq
                 refine callO (ih v T a s mid _ _ _ _ (by omega) l1.symm rfl rfl rfl (by omega) ⟨c2.1, c2.2, by omega, p1, p2, p5⟩) ?_
                 rintro r o ⟨T2, rfl, rfl, k2⟩
                 simp (config := {maxSteps := 2000000, implicitDefEqProofs := false}) (disch := omega) only [↓reduceIte, go_sem, Int.reduceToNat, Nat.reduceAdd, Nat.reduceLeDiff, Nat.reduceEqDiff, Nat.reduceSub, Nat.reduceMul, reduceCtorEq, rowT]
                 have l2 := k2.1.len
                 have w : ∀ k, mid ≤ k → T2[k]! = T[k]! := fun k hk => k2.1.rest k (by omega)
                 have s3 : SortedT T2 mid en := p3.same fun k e1 e2 => w k e1
                 have s4 : SortedT T2 en b := p4.same fun k e1 e2 => w k (by omega)
                 have k3 : Merged T2 T2 mid b := ⟨.refl _ _ _, by rw [c3]; exact s4⟩
                 exact ⟨T2, rfl, sym_final hR (by omega) (by omega) (by omega) (by omega) hbl (by omega) k2 k3 hx⟩)
            · first
              | (exfalso; omega)
              | (simp (config := {maxSteps := 2000000, implicitDefEqProofs := false}) (disch := omega) only [↓reduceIte, go_sem, Int.reduceToNat, Nat.reduceAdd, Nat.reduceLeDiff, Nat.reduceEqDiff, Nat.reduceSub, Nat.reduceMul, reduceCtorEq]
                 have hR : Rotated T T s m en := rot_triv T s m en (.inr c1)
                 obtain ⟨p1, p2, p3, p4, p5, p6⟩ := rot_pre hR (by omega) (by omega) (by omega) (by omega) hbl (show mid = s + (en - m) by omega) hleft hright htags
                 have l1 := hR.1.length_eq
                 refine callO (ih v T a s mid _ _ _ _ (by omega) l1.symm rfl rfl rfl (by omega) ⟨c2.1, c2.2, by omega, p1, p2, p5⟩) ?_
                 rintro r o ⟨T2, rfl, rfl, k2⟩
                 simp (config := {maxSteps := 2000000, implicitDefEqProofs := false}) (disch := omega) only [↓reduceIte, go_sem, Int.reduceToNat, Nat.reduceAdd, Nat.reduceLeDiff, Nat.reduceEqDiff, Nat.reduceSub, Nat.reduceMul, reduceCtorEq, rowT]
                 have l2 := k2.1.len
                 have w : ∀ k, mid ≤ k → T2[k]! = T[k]! := fun k hk => k2.1.rest k (by omega)
                 have s3 : SortedT T2 mid en := p3.same fun k e1 e2 => w k e1
                 have s4 : SortedT T2 en b := p4.same fun k e1 e2 => w k (by omega)
                 have k3 : Merged T2 T2 mid b := ⟨.refl _ _ _, by rw [← c3]; exact s3⟩
                 exact ⟨T2, rfl, sym_final hR (by omega) (by omega) (by omega) (by omega) hbl (by omega) k2 k3 hx⟩)
            · first
              | (exfalso; omega)
              | (simp (config := {maxSteps := 2000000, implicitDefEqProofs := false}) (disch := omega) only [↓reduceIte, go_sem, Int.reduceToNat, Nat.reduceAdd, Nat.reduceLeDiff, Nat.reduceEqDiff, Nat.reduceSub, Nat.reduceMul, reduceCtorEq]
                 have hR : Rotated T T s m en := rot_triv T s m en (.inr c1)
                 obtain ⟨p1, p2, p3, p4, p5, p6⟩ := rot_pre hR (by omega) (by omega) (by omega) (by omega) hbl (show mid = s + (en - m) by omega) hleft hright htags
                 have l1 := hR.1.length_eq
                 refine callO (ih v T a s mid _ _ _ _ (by omega) l1.symm rfl rfl rfl (by omega) ⟨c2.1, c2.2, by omega, p1, p2, p5⟩) ?_
                 rintro r o ⟨T2, rfl, rfl, k2⟩
                 simp (config := {maxSteps := 2000000, implicitDefEqProofs := false}) (disch := omega) only [↓reduceIte, go_sem, Int.reduceToNat, Nat.reduceAdd, Nat.reduceLeDiff, Nat.reduceEqDiff, Nat.reduceSub, Nat.reduceMul, reduceCtorEq, rowT]
                 have l2 := k2.1.len
                 have w : ∀ k, mid ≤ k → T2[k]! = T[k]! := fun k hk => k2.1.rest k (by omega)
                 have s3 : SortedT T2 mid en := p3.same fun k e1 e2 => w k e1
                 have s4 : SortedT T2 en b := p4.same fun k e1 e2 => w k (by omega)
                 refine callO (ih v T2 mid en b _ _ _ _ (by omega) (by omega) rfl (by omega) rfl (by omega) ⟨c3.1, c3.2, by omega, s3, s4, fun p q e1 e2 e3 e4 => by rw [w p e1, w q (by omega)]; exact p6 p q e1 e2 e3 e4⟩) ?_
                 rintro r o ⟨T3, rfl, rfl, k3⟩
                 simp (config := {maxSteps := 2000000, implicitDefEqProofs := false}) (disch := omega) only [↓reduceIte, go_sem, Int.reduceToNat, Nat.reduceAdd, Nat.reduceLeDiff, Nat.reduceEqDiff, Nat.reduceSub, Nat.reduceMul, reduceCtorEq, rowT]
                 exact ⟨T3, rfl, sym_final hR (by omega) (by omega) (by omega) (by omega) hbl (by omega) k2 k3 hx⟩)
            · first
              | (exfalso; omega)
              | (simp (config := {maxSteps := 2000000, implicitDefEqProofs := false}) (disch := omega) only [↓reduceIte, go_sem, Int.reduceToNat, Nat.reduceAdd, Nat.reduceLeDiff, Nat.reduceEqDiff, Nat.reduceSub, Nat.reduceMul, reduceCtorEq]
                 refine callO (C63i v T s m en _ _ _ _ rfl rfl (by omega) rfl c1.1 c1.2 (by omega) hl) ?_
                 rintro r o ⟨T1, rfl, rfl, hR⟩
                 simp (config := {maxSteps := 2000000, implicitDefEqProofs := false}) (disch := omega) only [↓reduceIte, go_sem, Int.reduceToNat, Nat.reduceAdd, Nat.reduceLeDiff, Nat.reduceEqDiff, Nat.reduceSub, Nat.reduceMul, reduceCtorEq, rowT]
                 obtain ⟨p1, p2, p3, p4, p5, p6⟩ := rot_pre hR (by omega) (by omega) (by omega) (by omega) hbl (show mid = s + (en - m) by omega) hleft hright htags
                 have l1 := hR.1.length_eq
                 have k2 : Merged T1 T1 a mid := ⟨.refl _ _ _, by rw [c2]; exact p2⟩
                 have l2 := k2.1.len
                 have w : ∀ k, mid ≤ k → T1[k]! = T1[k]! := fun k hk => k2.1.rest k (by omega)
                 have s3 : SortedT T1 mid en := p3.same fun k e1 e2 => w k e1
                 have s4 : SortedT T1 en b := p4.same fun k e1 e2 => w k (by omega)
                 have k3 : Merged T1 T1 mid b := ⟨.refl _ _ _, by rw [c3]; exact s4⟩
                 exact ⟨T1, rfl, sym_final hR (by omega) (by omega) (by omega) (by omega) hbl (by omega) k2 k3 hx⟩)
            · first
              | (exfalso; omega)
              | (simp (config := {maxSteps := 2000000, implicitDefEqProofs := false}) (disch := omega) only [↓reduceIte, go_sem, Int.reduceToNat, Nat.reduceAdd, Nat.reduceLeDiff, Nat.reduceEqDiff, Nat.reduceSub, Nat.reduceMul, reduceCtorEq]
                 refine callO (C63i v T s m en _ _ _ _ rfl rfl (by omega) rfl c1.1 c1.2 (by omega) hl) ?_
                 rintro r o ⟨T1, rfl, rfl, hR⟩
                 simp (config := {maxSteps := 2000000, implicitDefEqProofs := false}) (disch := omega) only [↓reduceIte, go_sem, Int.reduceToNat, Nat.reduceAdd, Nat.reduceLeDiff, Nat.reduceEqDiff, Nat.reduceSub, Nat.reduceMul, reduceCtorEq, rowT]
                 obtain ⟨p1, p2, p3, p4, p5, p6⟩ := rot_pre hR (by omega) (by omega) (by omega) (by omega) hbl (show mid = s + (en - m) by omega) hleft hright htags
                 have l1 := hR.1.length_eq
                 have k2 : Merged T1 T1 a mid := ⟨.refl _ _ _, by rw [c2]; exact p2⟩
                 have l2 := k2.1.len
                 have w : ∀ k, mid ≤ k → T1[k]! = T1[k]! := fun k hk => k2.1.rest k (by omega)
                 have s3 : SortedT T1 mid en := p3.same fun k e1 e2 => w k e1
                 have s4 : SortedT T1 en b := p4.same fun k e1 e2 => w k (by omega)
                 have k3 : Merged T1 T1 mid b := ⟨.refl _ _ _, by rw [← c3]; exact s3⟩
                 exact ⟨T1, rfl, sym_final hR (by omega) (by omega) (by omega) (by omega) hbl (by omega) k2 k3 hx⟩)
            · first
              | (exfalso; omega)
              | (simp (config := {maxSteps := 2000000, implicitDefEqProofs := false}) (disch := omega) only [↓reduceIte, go_sem, Int.reduceToNat, Nat.reduceAdd, Nat.reduceLeDiff, Nat.reduceEqDiff, Nat.reduceSub, Nat.reduceMul, reduceCtorEq]
                 refine callO (C63i v T s m en _ _ _ _ rfl rfl (by omega) rfl c1.1 c1.2 (by omega) hl) ?_
                 rintro r o ⟨T1, rfl, rfl, hR⟩
                 simp (config := {maxSteps := 2000000, implicitDefEqProofs := false}) (disch := omega) only [↓reduceIte, go_sem, Int.reduceToNat, Nat.reduceAdd, Nat.reduceLeDiff, Nat.reduceEqDiff, Nat.reduceSub, Nat.reduceMul, reduceCtorEq, rowT]
                 obtain ⟨p1, p2, p3, p4, p5, p6⟩ := rot_pre hR (by omega) (by omega) (by omega) (by omega) hbl (show mid = s + (en - m) by omega) hleft hright htags
                 have l1 := hR.1.length_eq
                 have k2 : Merged T1 T1 a mid := ⟨.refl _ _ _, by rw [c2]; exact p2⟩
                 have l2 := k2.1.len
                 have w : ∀ k, mid ≤ k → T1[k]! = T1[k]! := fun k hk => k2.1.rest k (by omega)
                 have s3 : SortedT T1 mid en := p3.same fun k e1 e2 => w k e1
                 have s4 : SortedT T1 en b := p4.same fun k e1 e2 => w k (by omega)
                 refine callO (ih v T1 mid en b _ _ _ _ (by omega) (by omega) rfl (by omega) rfl (by omega) ⟨c3.1, c3.2, by omega, s3, s4, fun p q e1 e2 e3 e4 => by rw [w p e1, w q (by omega)]; exact p6 p q e1 e2 e3 e4⟩) ?_
                 rintro r o ⟨T3, rfl, rfl, k3⟩
                 simp (config := {maxSteps := 2000000, implicitDefEqProofs := false}) (disch := omega) only [↓reduceIte, go_sem, Int.reduceToNat, Nat.reduceAdd, Nat.reduceLeDiff, Nat.reduceEqDiff, Nat.reduceSub, Nat.reduceMul, reduceCtorEq, rowT]
                 exact ⟨T3, rfl, sym_final hR (by omega) (by omega) (by omega) (by omega) hbl (by omega) k2 k3 hx⟩)
            · first
              | (exfalso; omega)
              | (simp (config := {maxSteps := 2000000, implicitDefEqProofs := false}) (disch := omega) only [↓reduceIte, go_sem, Int.reduceToNat, Nat.reduceAdd, Nat.reduceLeDiff, Nat.reduceEqDiff, Nat.reduceSub, Nat.reduceMul, reduceCtorEq]
                 refine callO (C63i v T s m en _ _ _ _ rfl rfl (by omega) rfl c1.1 c1.2 (by omega) hl) ?_
                 rintro r o ⟨T1, rfl, rfl, hR⟩
                 simp (config := {maxSteps := 2000000, implicitDefEqProofs := false}) (disch := omega) only [↓reduceIte, go_sem, Int.reduceToNat, Nat.reduceAdd, Nat.reduceLeDiff, Nat.reduceEqDiff, Nat.reduceSub, Nat.reduceMul, reduceCtorEq, rowT]
                 obtain ⟨p1, p2, p3, p4, p5, p6⟩ := rot_pre hR (by omega) (by omega) (by omega) (by omega) hbl (show mid = s + (en - m) by omega) hleft hright htags
                 have l1 := hR.1.length_eq
                 have k2 : Merged T1 T1 a mid := ⟨.refl _ _ _, by rw [← c2]; exact p1⟩
                 have l2 := k2.1.len
                 have w : ∀ k, mid ≤ k → T1[k]! = T1[k]! := fun k hk => k2.1.rest k (by omega)
                 have s3 : SortedT T1 mid en := p3.same fun k e1 e2 => w k e1
                 have s4 : SortedT T1 en b := p4.same fun k e1 e2 => w k (by omega)
                 have k3 : Merged T1 T1 mid b := ⟨.refl _ _ _, by rw [c3]; exact s4⟩
                 exact ⟨T1, rfl, sym_final hR (by omega) (by omega) (by omega) (by omega) hbl (by omega) k2 k3 hx⟩)
            · first
              | (exfalso; omega)
              | (simp (config := {maxSteps := 2000000, implicitDefEqProofs := false}) (disch := omega) only [↓reduceIte, go_sem, Int.reduceToNat, Nat.reduceAdd, Nat.reduceLeDiff, Nat.reduceEqDiff, Nat.reduceSub, Nat.reduceMul, reduceCtorEq]
                 refine callO (C63i v T s m en _ _ _ _ rfl rfl (by omega) rfl c1.1 c1.2 (by omega) hl) ?_
                 rintro r o ⟨T1, rfl, rfl, hR⟩
                 simp (config := {maxSteps := 2000000, implicitDefEqProofs := false}) (disch := omega) only [↓reduceIte, go_sem, Int.reduceToNat, Nat.reduceAdd, Nat.reduceLeDiff, Nat.reduceEqDiff, Nat.reduceSub, Nat.reduceMul, reduceCtorEq, rowT]
                 obtain ⟨p1, p2, p3, p4, p5, p6⟩ := rot_pre hR (by omega) (by omega) (by omega) (by omega) hbl (show mid = s + (en - m) by omega) hleft hright htags
                 have l1 := hR.1.length_eq
                 have k2 : Merged T1 T1 a mid := ⟨.refl _ _ _, by rw [← c2]; exact p1⟩
                 have l2 := k2.1.len
                 have w : ∀ k, mid ≤ k → T1[k]! = T1[k]! := fun k hk => k2.1.rest k (by omega)
                 have s3 : SortedT T1 mid en := p3.same fun k e1 e2 => w k e1
                 have s4 : SortedT T1 en b := p4.same fun k e1 e2 => w k (by omega)
                 have k3 : Merged T1 T1 mid b := ⟨.refl _ _ _, by rw [← c3]; exact s3⟩
                 exact ⟨T1, rfl, sym_final hR (by omega) (by omega) (by omega) (by omega) hbl (by omega) k2 k3 hx⟩)
            · first
              | (exfalso; omega)
              | (simp (config := {maxSteps := 2000000, implicitDefEqProofs := false}) (disch := omega) only [↓reduceIte, go_sem, Int.reduceToNat, Nat.reduceAdd, Nat.reduceLeDiff, Nat.reduceEqDiff, Nat.reduceSub, Nat.reduceMul, reduceCtorEq]
                 refine callO (C63i v T s m en _ _ _ _ rfl rfl (by omega) rfl c1.1 c1.2 (by omega) hl) ?_
                 rintro r o ⟨T1, rfl, rfl, hR⟩
                 simp (config := {maxSteps := 2000000, implicitDefEqProofs := false}) (disch := omega) only [↓reduceIte, go_sem, Int.reduceToNat, Nat.reduceAdd, Nat.reduceLeDiff, Nat.reduceEqDiff, Nat.reduceSub, Nat.reduceMul, reduceCtorEq, rowT]
                 obtain ⟨p1, p2, p3, p4, p5, p6⟩ := rot_pre hR (by omega) (by omega) (by omega) (by omega) hbl (show mid = s + (en - m) by omega) hleft hright htags
                 have l1 := hR.1.length_eq
                 have k2 : Merged T1 T1 a mid := ⟨.refl _ _ _, by rw [← c2]; exact p1⟩
                 have l2 := k2.1.len
                 have w : ∀ k, mid ≤ k → T1[k]! = T1[k]! := fun k hk => k2.1.rest k (by omega)
                 have s3 : SortedT T1 mid en := p3.same fun k e1 e2 => w k e1
                 have s4 : SortedT T1 en b := p4.same fun k e1 e2 => w k (by omega)
                 refine callO (ih v T1 mid en b _ _ _ _ (by omega) (by omega) rfl (by omega) rfl (by omega) ⟨c3.1, c3.2, by omega, s3, s4, fun p q e1 e2 e3 e4 => by rw [w p e1, w q (by omega)]; exact p6 p q e1 e2 e3 e4⟩) ?_
                 rintro r o ⟨T3, rfl, rfl, k3⟩
                 simp (config := {maxSteps := 2000000, implicitDefEqProofs := false}) (disch := omega) only [↓reduceIte, go_sem, Int.reduceToNat, Nat.reduceAdd, Nat.reduceLeDiff, Nat.reduceEqDiff, Nat.reduceSub, Nat.reduceMul, reduceCtorEq, rowT]
                 exact ⟨T3, rfl, sym_final hR (by omega) (by omega) (by omega) (by omega) hbl (by omega) k2 k3 hx⟩)
            · first
              | (exfalso; omega)
              | (simp (config := {maxSteps := 2000000, implicitDefEqProofs := false}) (disch := omega) only [↓reduceIte, go_sem, Int.reduceToNat, Nat.reduceAdd, Nat.reduceLeDiff, Nat.reduceEqDiff, Nat.reduceSub, Nat.reduceMul, reduceCtorEq]
                 refine callO (C63i v T s m en _ _ _ _ rfl rfl (by omega) rfl c1.1 c1.2 (by omega) hl) ?_
                 rintro r o ⟨T1, rfl, rfl, hR⟩
                 simp (config := {maxSteps := 2000000, implicitDefEqProofs := false}) (disch := omega) only [↓reduceIte, go_sem, Int.reduceToNat, Nat.reduceAdd, Nat.reduceLeDiff, Nat.reduceEqDiff, Nat.reduceSub, Nat.reduceMul, reduceCtorEq, rowT]
                 obtain ⟨p1, p2, p3, p4, p5, p6⟩ := rot_pre hR (by omega) (by omega) (by omega) (by omega) hbl (show mid = s + (en - m) by omega) hleft hright htags
                 have l1 := hR.1.length_eq
                 refine callO (ih v T1 a s mid _ _ _ _ (by omega) l1.symm rfl rfl rfl (by omega) ⟨c2.1, c2.2, by omega, p1, p2, p5⟩) ?_
                 rintro r o ⟨T2, rfl, rfl, k2⟩
                 simp (config := {maxSteps := 2000000, implicitDefEqProofs := false}) (disch := omega) only [↓reduceIte, go_sem, Int.reduceToNat, Nat.reduceAdd, Nat.reduceLeDiff, Nat.reduceEqDiff, Nat.reduceSub, Nat.reduceMul, reduceCtorEq, rowT]
                 have l2 := k2.1.len
                 have w : ∀ k, mid ≤ k → T2[k]! = T1[k]! := fun k hk => k2.1.rest k (by omega)
                 have s3 : SortedT T2 mid en := p3.same fun k e1 e2 => w k e1
                 have s4 : SortedT T2 en b := p4.same fun k e1 e2 => w k (by omega)
                 have k3 : Merged T2 T2 mid b := ⟨.refl _ _ _, by rw [c3]; exact s4⟩
                 exact ⟨T2, rfl, sym_final hR (by omega) (by omega) (by omega) (by omega) hbl (by omega) k2 k3 hx⟩)
            · first
              | (exfalso; omega)
              | (simp (config := {maxSteps := 2000000, implicitDefEqProofs := false}) (disch := omega) only [↓reduceIte, go_sem, Int.reduceToNat, Nat.reduceAdd, Nat.reduceLeDiff, Nat.reduceEqDiff, Nat.reduceSub, Nat.reduceMul, reduceCtorEq]
                 refine callO (C63i v T s m en _ _ _ _ rfl rfl (by omega) rfl c1.1 c1.2 (by omega) hl) ?_
                 rintro r o ⟨T1, rfl, rfl, hR⟩
                 simp (config := {maxSteps := 2000000, implicitDefEqProofs := false}) (disch := omega) only [↓reduceIte, go_sem, Int.reduceToNat, Nat.reduceAdd, Nat.reduceLeDiff, Nat.reduceEqDiff, Nat.reduceSub, Nat.reduceMul, reduceCtorEq, rowT]
                 obtain ⟨p1, p2, p3, p4, p5, p6⟩ := rot_pre hR (by omega) (by omega) (by omega) (by omega) hbl (show mid = s + (en - m) by omega) hleft hright htags
                 have l1 := hR.1.length_eq
                 refine callO (ih v T1 a s mid _ _ _ _ (by omega) l1.symm rfl rfl rfl (by omega) ⟨c2.1, c2.2, by omega, p1, p2, p5⟩) ?_
                 rintro r o ⟨T2, rfl, rfl, k2⟩
                 simp (config := {maxSteps := 2000000, implicitDefEqProofs := false}) (disch := omega) only [↓reduceIte, go_sem, Int.reduceToNat, Nat.reduceAdd, Nat.reduceLeDiff, Nat.reduceEqDiff, Nat.reduceSub, Nat.reduceMul, reduceCtorEq, rowT]
                 have l2 := k2.1.len
                 have w : ∀ k, mid ≤ k → T2[k]! = T1[k]! := fun k hk => k2.1.rest k (by omega)
                 have s3 : SortedT T2 mid en := p3.same fun k e1 e2 => w k e1
                 have s4 : SortedT T2 en b := p4.same fun k e1 e2 => w k (by omega)
                 have k3 : Merged T2 T2 mid b := ⟨.refl _ _ _, by rw [← c3]; exact s3⟩
                 exact ⟨T2, rfl, sym_final hR (by omega) (by omega) (by omega) (by omega) hbl (by omega) k2 k3 hx⟩)
            · first
              | (exfalso; omega)
              | (simp (config := {maxSteps := 2000000, implicitDefEqProofs := false}) (disch := omega) only [↓reduceIte, go_sem, Int.reduceToNat, Nat.reduceAdd, Nat.reduceLeDiff, Nat.reduceEqDiff, Nat.reduceSub, Nat.reduceMul, reduceCtorEq]
                 refine callO (C63i v T s m en _ _ _ _ rfl rfl (by omega) rfl c1.1 c1.2 (by omega) hl) ?_
                 rintro r o ⟨T1, rfl, rfl, hR⟩
                 simp (config := {maxSteps := 2000000, implicitDefEqProofs := false}) (disch := omega) only [↓reduceIte, go_sem, Int.reduceToNat, Nat.reduceAdd, Nat.reduceLeDiff, Nat.reduceEqDiff, Nat.reduceSub, Nat.reduceMul, reduceCtorEq, rowT]
                 obtain ⟨p1, p2, p3, p4, p5, p6⟩ := rot_pre hR (by omega) (by omega) (by omega) (by omega) hbl (show mid = s + (en - m) by omega) hleft hright htags
                 have l1 := hR.1.length_eq
                 refine callO (ih v T1 a s mid _ _ _ _ (by omega) l1.symm rfl rfl rfl (by omega) ⟨c2.1, c2.2, by omega, p1, p2, p5⟩) ?_
                 rintro r o ⟨T2, rfl, rfl, k2⟩
                 simp (config := {maxSteps := 2000000, implicitDefEqProofs := false}) (disch := omega) only [↓reduceIte, go_sem, Int.reduceToNat, Nat.reduceAdd, Nat.reduceLeDiff, Nat.reduceEqDiff, Nat.reduceSub, Nat.reduceMul, reduceCtorEq, rowT]
                 have l2 := k2.1.len
                 have w : ∀ k, mid ≤ k → T2[k]! = T1[k]! := fun k hk => k2.1.rest k (by omega)
                 have s3 : SortedT T2 mid en := p3.same fun k e1 e2 => w k e1
                 have s4 : SortedT T2 en b := p4.same fun k e1 e2 => w k (by omega)
                 refine callO (ih v T2 mid en b _ _ _ _ (by omega) (by omega) rfl (by omega) rfl (by omega) ⟨c3.1, c3.2, by omega, s3, s4, fun p q e1 e2 e3 e4 => by rw [w p e1, w q (by omega)]; exact p6 p q e1 e2 e3 e4⟩) ?_
                 rintro r o ⟨T3, rfl, rfl, k3⟩
                 simp (config := {maxSteps := 2000000, implicitDefEqProofs := false}) (disch := omega) only [↓reduceIte, go_sem, Int.reduceToNat, Nat.reduceAdd, Nat.reduceLeDiff, Nat.reduceEqDiff, Nat.reduceSub, Nat.reduceMul, reduceCtorEq, rowT]
                 exact ⟨T3, rfl, sym_final hR (by omega) (by omega) (by omega) (by omega) hbl (by omega) k2 k3 hx⟩)
        · simp (config := {maxSteps := 2000000, implicitDefEqProofs := false}) (disch := omega) only [↓reduceIte, go_sem, Int.reduceToNat, Nat.reduceAdd, Nat.reduceLeDiff, Nat.reduceEqDiff, Nat.reduceSub, Nat.reduceMul, reduceCtorEq]
          refine loopL (σ := Nat × Nat) (fun s => ⟨[(0, .hs 0 v 0 T.length), (1, .int .i64 a), (2, .int .i64 m), (3, .int .i64 b), (4, cF), (18, .int .i64 mid), (19, .int .i64 ((mid : Int) + m)), (20, .int .i64 s.1), (21, .int .i64 s.2), (22, .int .i64 ((mid : Int) + m - 1))], [(0, .arr v 6 (T.map encT))]⟩)
            (fun s => a ≤ s.1 ∧ s.1 ≤ s.2 ∧ s.2 ≤ m ∧ (a < s.1 → ¬ cmpV T[mid + m - s.1]!.1 T[s.1 - 1]!.1 < 0) ∧ (s.2 < m → cmpV T[mid + m - 1 - s.2]!.1 T[s.2]!.1 < 0)) (fun s => s.2 - s.1) (a, m) (by simp (config := {maxSteps := 2000000, implicitDefEqProofs := false}) (disch := omega) only [↓reduceIte, go_sem, Int.reduceToNat, Nat.reduceAdd, Nat.reduceLeDiff, Nat.reduceEqDiff, Nat.reduceSub, Nat.reduceMul, reduceCtorEq]; try (simp; omega))
            ⟨Nat.le_refl _, by simp only; omega, Nat.le_refl _, fun e => absurd e (Nat.lt_irrefl _), fun e => absurd e (Nat.lt_irrefl _)⟩ ?_
          rintro ⟨s, r⟩ ⟨g1, g2, g3, g4, g5⟩
          simp only at g1 g2 g3 g4 g5
          have hh2 := halfI s r (by omega)
          simp (config := {maxSteps := 2000000, implicitDefEqProofs := false}) (disch := omega) only [↓reduceIte, go_sem, Int.reduceToNat, Nat.reduceAdd, Nat.reduceLeDiff, Nat.reduceEqDiff, Nat.reduceSub, Nat.reduceMul, reduceCtorEq]
          refine ifD (fun c => ?_) (fun c => ?_)
          · simp (config := {maxSteps := 2000000, implicitDefEqProofs := false}) (disch := omega) only [↓reduceIte, go_sem, Int.reduceToNat, Nat.reduceAdd, Nat.reduceLeDiff, Nat.reduceEqDiff, Nat.reduceSub, Nat.reduceMul, reduceCtorEq, hh2]
            have q1 : s ≤ (s + r) / 2 := by omega
            have q2 : (s + r) / 2 < r := by omega
            generalize (s + r) / 2 = h at q1 q2
            have t1 : ((mid : Int) + m - 1 - h).toNat = mid + m - 1 - h := by omega
            have b1 : Option.map encT T[mid + m - 1 - h]? = some (encS T[mid + m - 1 - h]!.1) := by rw [bangT (by omega)]; rfl
            have b2 : Option.map encT T[h]? = some (encS T[h]!.1) := by rw [bangT (by omega)]; rfl
            simp only [encS] at b1 b2
            simp (config := {maxSteps := 2000000, implicitDefEqProofs := false}) (disch := omega) only [↓reduceIte, go_sem, Int.reduceToNat, Nat.reduceAdd, Nat.reduceLeDiff, Nat.reduceEqDiff, Nat.reduceSub, Nat.reduceMul, reduceCtorEq, t1, b1, b2]
            refine callL (C35 T[mid + m - 1 - h]!.1 T[h]!.1) ?_
            simp (config := {maxSteps := 2000000, implicitDefEqProofs := false}) (disch := omega) only [↓reduceIte, go_sem, Int.reduceToNat, Nat.reduceAdd, Nat.reduceLeDiff, Nat.reduceEqDiff, Nat.reduceSub, Nat.reduceMul, reduceCtorEq]
            refine accL (by kernel_rfl) ?_
            simp (config := {maxSteps := 2000000, implicitDefEqProofs := false}) (disch := omega) only [↓reduceIte, go_sem, Int.reduceToNat, Nat.reduceAdd, Nat.reduceLeDiff, Nat.reduceEqDiff, Nat.reduceSub, Nat.reduceMul, reduceCtorEq]
            refine ifD (fun c2 => ?_) (fun c2 => ?_)
            · simp (config := {maxSteps := 2000000, implicitDefEqProofs := false}) (disch := omega) only [↓reduceIte, go_sem, Int.reduceToNat, Nat.reduceAdd, Nat.reduceLeDiff, Nat.reduceEqDiff, Nat.reduceSub, Nat.reduceMul, reduceCtorEq]
              exact ⟨(s, h), by simp, ⟨g1, q1, by simp only; omega, g4, fun _ => c2⟩, by simp only; omega⟩
            · simp (config := {maxSteps := 2000000, implicitDefEqProofs := false}) (disch := omega) only [↓reduceIte, go_sem, Int.reduceToNat, Nat.reduceAdd, Nat.reduceLeDiff, Nat.reduceEqDiff, Nat.reduceSub, Nat.reduceMul, reduceCtorEq]
              exact ⟨(h + 1, r), by simp, ⟨by simp only; omega, by simp only; omega, g3, fun _ => by
                simp only [Nat.add_sub_cancel]
                rw [show mid + m - (h + 1) = mid + m - 1 - h by omega]
                exact c2, g5⟩, by simp only; omega⟩
          · simp (config := {maxSteps := 2000000, implicitDefEqProofs := false}) (disch := omega) only [↓reduceIte, go_sem, Int.reduceToNat, Nat.reduceAdd, Nat.reduceLeDiff, Nat.reduceEqDiff, Nat.reduceSub, Nat.reduceMul, reduceCtorEq]
            have hsr : s = r := by omega
            subst hsr
            obtain ⟨en, hen⟩ : ∃ en, mid + m = en + s := ⟨mid + m - s, by omega⟩
            have hen2 : mid + m - s = en := by omega
            have hx : ∀ p q, (a ≤ p ∧ p < s ∨ m ≤ p ∧ p < en) → (s ≤ q ∧ q < m ∨ en ≤ q ∧ q < b) → ltT T[p]! T[q]! := by
              have fst : ∀ p q, a ≤ p → p < s → en ≤ q → q < b → ltT T[p]! T[q]! := by
                intro p q e1 e2 e3 e4
                have hc := g4 (by omega)
                rw [hen2, cmpV_neg] at hc
                have ht := htags (s - 1) en (by omega) (by omega) (by omega) (by omega)
                have h5 : ltT T[s - 1]! T[en]! := by unfold ltT; omega
                have h6 : p = s - 1 ∨ ltT T[p]! T[s - 1]! := by
                  by_cases e : p = s - 1
                  · exact .inl e
                  · exact .inr (hleft p (s - 1) e1 (by omega) (by omega))
                have h7 : q = en ∨ ltT T[en]! T[q]! := by
                  by_cases e : q = en
                  · exact .inl e
                  · exact .inr (hright en q (by omega) (by omega) e4)
                rcases h6 with rfl | h6 <;> rcases h7 with rfl | h7
                · exact h5
                · exact ltT_trans h5 h7
                · exact ltT_trans h6 h5
                · exact ltT_trans h6 (ltT_trans h5 h7)
              have snd : ∀ p q, m ≤ p → p < en → s ≤ q → q < m → ltT T[p]! T[q]! := by
                intro p q e1 e2 e3 e4
                have hc := g5 (by omega)
                rw [show mid + m - 1 - s = en - 1 by omega, cmpV_neg] at hc
                have h5 : ltT T[en - 1]! T[s]! := by unfold ltT; omega
                have h6 : p = en - 1 ∨ ltT T[p]! T[en - 1]! := by
                  by_cases e : p = en - 1
                  · exact .inl e
                  · exact .inr (hright p (en - 1) e1 (by omega) (by omega))
                have h7 : q = s ∨ ltT T[s]! T[q]! := by
                  by_cases e : q = s
                  · exact .inl e
                  · exact .inr (hleft s q (by omega) (by omega) e4)
                rcases h6 with rfl | h6 <;> rcases h7 with rfl | h7
                · exact h5
                · exact ltT_trans h5 h7
                · exact ltT_trans h6 h5
                · exact ltT_trans h6 (ltT_trans h5 h7)
              intro p q e1 e2
              rcases e1 with e1 | e1 <;> rcases e2 with e2 | e2
              · exact hleft p q (by omega) (by omega) (by omega)
              · exact fst p q (by omega) (by omega) (by omega) (by omega)
              · exact snd p q (by omega) (by omega) (by omega) (by omega)
              · exact hright p q (by omega) (by omega) (by omega)
            have c1 : s = m ∨ m = en ∨ (s < m ∧ m < en) := by omega
            have c2 : a = s ∨ s = mid ∨ (a < s ∧ s < mid) := by omega
            have c3 : mid = en ∨ en = b ∨ (mid < en ∧ en < b) := by omega
            rcases c1 with c1 | c1 | c1 <;> rcases c2 with c2 | c2 | c2 <;> rcases c3 with c3 | c3 | c3
            · first
              | (exfalso; omega)
              | (simp (config := {maxSteps := 2000000, implicitDefEqProofs := false}) (disch := omega) only [↓reduceIte, go_sem, Int.reduceToNat, Nat.reduceAdd, Nat.reduceLeDiff, Nat.reduceEqDiff, Nat.reduceSub, Nat.reduceMul, reduceCtorEq]
                 have hR : Rotated T T s m en := rot_triv T s m en (.inl c1)
                 obtain ⟨p1, p2, p3, p4, p5, p6⟩ := rot_pre hR (by omega) (by omega) (by omega) (by omega) hbl (show mid = s + (en - m) by omega) hleft hright htags
                 have l1 := hR.1.length_eq
                 have k2 : Merged T T a mid := ⟨.refl _ _ _, by rw [c2]; exact p2⟩
                 have l2 := k2.1.len
                 have w : ∀ k, mid ≤ k → T[k]! = T[k]! := fun k hk => k2.1.rest k (by omega)
                 have s3 : SortedT T mid en := p3.same fun k e1 e2 => w k e1
                 have s4 : SortedT T en b := p4.same fun k e1 e2 => w k (by omega)
                 have k3 : Merged T T mid b := ⟨.refl _ _ _, by rw [c3]; exact s4⟩
                 exact ⟨T, rfl, sym_final hR (by omega) (by omega) (by omega) (by omega) hbl (by omega) k2 k3 hx⟩)
            · first
              | (exfalso; omega)
              | (simp (config := {maxSteps := 2000000, implicitDefEqProofs := false}) (disch := omega) only [↓reduceIte, go_sem, Int.reduceToNat, Nat.reduceAdd, Nat.reduceLeDiff, Nat.reduceEqDiff, Nat.reduceSub, Nat.reduceMul, reduceCtorEq]
                 have hR : Rotated T T s m en := rot_triv T s m en (.inl c1)
                 obtain ⟨p1, p2, p3, p4, p5, p6⟩ := rot_pre hR (by omega) (by omega) (by omega) (by omega) hbl (show mid = s + (en - m) by omega) hleft hright htags
                 have l1 := hR.1.length_eq
                 have k2 : Merged T T a mid := ⟨.refl _ _ _, by rw [c2]; exact p2⟩
                 have l2 := k2.1.len
                 have w : ∀ k, mid ≤ k → T[k]! = T[k]! := fun k hk => k2.1.rest k (by omega)
                 have s3 : SortedT T mid en := p3.same fun k e1 e2 => w k e1
                 have s4 : SortedT T en b := p4.same fun k e1 e2 => w k (by omega)
                 have k3 : Merged T T mid b := ⟨.refl _ _ _, by rw [← c3]; exact s3⟩
                 exact ⟨T, rfl, sym_final hR (by omega) (by omega) (by omega) (by omega) hbl (by omega) k2 k3 hx⟩)
            · first
              | (exfalso; omega)
              | (simp (config := {maxSteps := 2000000, implicitDefEqProofs := false}) (disch := omega) only [↓reduceIte, go_sem, Int.reduceToNat, Nat.reduceAdd, Nat.reduceLeDiff, Nat.reduceEqDiff, Nat.reduceSub, Nat.reduceMul, reduceCtorEq]
                 have hR : Rotated T T s m en := rot_triv T s m en (.inl c1)
                 obtain ⟨p1, p2, p3, p4, p5, p6⟩ := rot_pre hR (by omega) (by omega) (by omega) (by omega) hbl (show mid = s + (en - m) by omega) hleft hright htags
                 have l1 := hR.1.length_eq
                 have k2 : Merged T T a mid := ⟨.refl _ _ _, by rw [c2]; exact p2⟩
                 have l2 := k2.1.len
                 have w : ∀ k, mid ≤ k → T[k]! = T[k]! := fun k hk => k2.1.rest k (by omega)
                 have s3 : SortedT T mid en := p3.same fun k e1 e2 => w k e1
                 have s4 : SortedT T en b := p4.same fun k e1 e2 => w k (by omega)
                 refine callO (ih v T mid en b _ _ _ _ (by omega) (by omega) rfl (by omega) rfl (by omega) ⟨c3.1, c3.2, by omega, s3, s4, fun p q e1 e2 e3 e4 => by rw [w p e1, w q (by omega)]; exact p6 p q e1 e2 e3 e4⟩) ?_
                 rintro r o ⟨T3, rfl, rfl, k3⟩
                 simp (config := {maxSteps := 2000000, implicitDefEqProofs := false}) (disch := omega) only [↓reduceIte, go_sem, Int.reduceToNat, Nat.reduceAdd, Nat.reduceLeDiff, Nat.reduceEqDiff, Nat.reduceSub, Nat.reduceMul, reduceCtorEq, rowT]
                 exact ⟨T3, rfl, sym_final hR (by omega) (by omega) (by omega) (by omega) hbl (by omega) k2 k3 hx⟩)
            · first
              | (exfalso; omega)
              | (simp (config := {maxSteps := 2000000, implicitDefEqProofs := false}) (disch := omega) only [↓reduceIte, go_sem, Int.reduceToNat, Nat.reduceAdd, Nat.reduceLeDiff, Nat.reduceEqDiff, Nat.reduceSub, Nat.reduceMul, reduceCtorEq]
                 have hR : Rotated T T s m en := rot_triv T s m en (.inl c1)
                 obtain ⟨p1, p2, p3, p4, p5, p6⟩ := rot_pre hR (by omega) (by omega) (by omega) (by omega) hbl (show mid = s + (en - m) by omega) hleft hright htags
                 have l1 := hR.1.length_eq
                 have k2 : Merged T T a mid := ⟨.refl _ _ _, by rw [← c2]; exact p1⟩
                 have l2 := k2.1.len
                 have w : ∀ k, mid ≤ k → T[k]! = T[k]! := fun k hk => k2.1.rest k (by omega)
                 have s3 : SortedT T mid en := p3.same fun k e1 e2 => w k e1
                 have s4 : SortedT T en b := p4.same fun k e1 e2 => w k (by omega)
                 have k3 : Merged T T mid b := ⟨.refl _ _ _, by rw [c3]; exact s4⟩
                 exact ⟨T, rfl, sym_final hR (by omega) (by omega) (by omega) (by omega) hbl (by omega) k2 k3 hx⟩)
            · first
              | (exfalso; omega)
              | (simp (config := {maxSteps := 2000000, implicitDefEqProofs := false}) (disch := omega) only [↓reduceIte, go_sem, Int.reduceToNat, Nat.reduceAdd, Nat.reduceLeDiff, Nat.reduceEqDiff, Nat.reduceSub, Nat.reduceMul, reduceCtorEq]
                 have hR : Rotated T T s m en := rot_triv T s m en (.inl c1)
                 obtain ⟨p1, p2, p3, p4, p5, p6⟩ := rot_pre hR (by omega) (by omega) (by omega) (by omega) hbl (show mid = s + (en - m) by omega) hleft hright htags
                 have l1 := hR.1.length_eq
                 have k2 : Merged T T a mid := ⟨.refl _ _ _, by rw [← c2]; exact p1⟩
                 have l2 := k2.1.len
                 have w : ∀ k, mid ≤ k → T[k]! = T[k]! := fun k hk => k2.1.rest k (by omega)
                 have s3 : SortedT T mid en := p3.same fun k e1 e2 => w k e1
                 have s4 : SortedT T en b := p4.same fun k e1 e2 => w k (by omega)
                 have k3 : Merged T T mid b := ⟨.refl _ _ _, by rw [← c3]; exact s3⟩
                 exact ⟨T, rfl, sym_final hR (by omega) (by omega) (by omega) (by omega) hbl (by omega) k2 k3 hx⟩)
            · first
              | (exfalso; omega)
              | (simp (config := {maxSteps := 2000000, implicitDefEqProofs := false}) (disch := omega) only [↓reduceIte, go_sem, Int.reduceToNat, Nat.reduceAdd, Nat.reduceLeDiff, Nat.reduceEqDiff, Nat.reduceSub, Nat.reduceMul, reduceCtorEq]
                 have hR : Rotated T T s m en := rot_triv T s m en (.inl c1)
                 obtain ⟨p1, p2, p3, p4, p5, p6⟩ := rot_pre hR (by omega) (by omega) (by omega) (by omega) hbl (show mid = s + (en - m) by omega) hleft hright htags
                 have l1 := hR.1.length_eq
                 have k2 : Merged T T a mid := ⟨.refl _ _ _, by rw [← c2]; exact p1⟩
                 have l2 := k2.1.len
                 have w : ∀ k, mid ≤ k → T[k]! = T[k]! := fun k hk => k2.1.rest k (by omega)
                 have s3 : SortedT T mid en := p3.same fun k e1 e2 => w k e1
                 have s4 : SortedT T en b := p4.same fun k e1 e2 => w k (by omega)
                 refine callO (ih v T mid en b _ _ _ _ (by omega) (by omega) rfl (by omega) rfl (by omega) ⟨c3.1, c3.2, by omega, s3, s4, fun p q e1 e2 e3 e4 => by rw [w p e1, w q (by omega)]; exact p6 p q e1 e2 e3 e4⟩) ?_
                 rintro r o ⟨T3, rfl, rfl, k3⟩
                 simp (config := {maxSteps := 2000000, implicitDefEqProofs := false}) (disch := omega) only [↓reduceIte, go_sem, Int.reduceToNat, Nat.reduceAdd, Nat.reduceLeDiff, Nat.reduceEqDiff, Nat.reduceSub, Nat.reduceMul, reduceCtorEq, rowT]
                 exact ⟨T3, rfl, sym_final hR (by omega) (by omega) (by omega) (by omega) hbl (by omega) k2 k3 hx⟩)
            · first
              | (exfalso; omega)
              | (simp (config := {maxSteps := 2000000, implicitDefEqProofs := false}) (disch := omega) only [↓reduceIte, go_sem, Int.reduceToNat, Nat.reduceAdd, Nat.reduceLeDiff, Nat.reduceEqDiff, Nat.reduceSub, Nat.reduceMul, reduceCtorEq]
                 have hR : Rotated T T s m en := rot_triv T s m en (.inl c1)
                 obtain ⟨p1, p2, p3, p4, p5, p6⟩ := rot_pre hR (by omega) (by omega) (by omega) (by omega) hbl (show mid = s + (en - m) by omega) hleft hright htags
                 have l1 := hR.1.length_eq
                 refine callO (ih v T a s mid _ _ _ _ (by omega) l1.symm rfl rfl rfl (by omega) ⟨c2.1, c2.2, by omega, p1, p2, p5⟩) ?_
                 rintro r o ⟨T2, rfl, rfl, k2⟩
                 simp (config := {maxSteps := 2000000, implicitDefEqProofs := false}) (disch := omega) only [↓reduceIte, go_sem, Int.reduceToNat, Nat.reduceAdd, Nat.reduceLeDiff, Nat.reduceEqDiff, Nat.reduceSub, Nat.reduceMul, reduceCtorEq, rowT]
                 have l2 := k2.1.len
                 have w : ∀ k, mid ≤ k → T2[k]! = T[k]! := fun k hk => k2.1.rest k (by omega)
                 have s3 : SortedT T2 mid en := p3.same fun k e1 e2 => w k e1
                 have s4 : SortedT T2 en b := p4.same fun k e1 e2 => w k (by omega)
                 have k3 : Merged T2 T2 mid b := ⟨.refl _ _ _, by rw [c3]; exact s4⟩
                 exact ⟨T2, rfl, sym_final hR (by omega) (by omega) (by omega) (by omega) hbl (by omega) k2 k3 hx⟩)
            · first
              | (exfalso; omega)
              | (simp (config := {maxSteps := 2000000, implicitDefEqProofs := false}) (disch := omega) only [↓reduceIte, go_sem, Int.reduceToNat, Nat.reduceAdd, Nat.reduceLeDiff, Nat.reduceEqDiff, Nat.reduceSub, Nat.reduceMul, reduceCtorEq]
                 have hR : Rotated T T s m en := rot_triv T s m en (.inl c1)
                 obtain ⟨p1, p2, p3, p4, p5, p6⟩ := rot_pre hR (by omega) (by omega) (by omega) (by omega) hbl (show mid = s + (en - m) by omega) hleft hright htags
                 have l1 := hR.1.length_eq
                 refine callO (ih v T a s mid _ _ _ _ (by omega) l1.symm rfl rfl rfl (by omega) ⟨c2.1, c2.2, by omega, p1, p2, p5⟩) ?_
                 rintro r o ⟨T2, rfl, rfl, k2⟩
                 simp (config := {maxSteps := 2000000, implicitDefEqProofs := false}) (disch := omega) only [↓reduceIte, go_sem, Int.reduceToNat, Nat.reduceAdd, Nat.reduceLeDiff, Nat.reduceEqDiff, Nat.reduceSub, Nat.reduceMul, reduceCtorEq, rowT]
                 have l2 := k2.1.len
                 have w : ∀ k, mid ≤ k → T2[k]! = T[k]! := fun k hk => k2.1.rest k (by omega)
                 have s3 : SortedT T2 mid en := p3.same fun k e1 e2 => w k e1
                 have s4 : SortedT T2 en b := p4.same fun k e1 e2 => w k (by omega)
                 have k3 : Merged T2 T2 mid b := ⟨.refl _ _ _, by rw [← c3]; exact s3⟩
                 exact ⟨T2, rfl, sym_final hR (by omega) (by omega) (by omega) (by omega) hbl (by omega) k2 k3 hx⟩)
            · first
              | (exfalso; omega)
              | (simp (config := {maxSteps := 2000000, implicitDefEqProofs := false}) (disch := omega) only [↓reduceIte, go_sem, Int.reduceToNat, Nat.reduceAdd, Nat.reduceLeDiff, Nat.reduceEqDiff, Nat.reduceSub, Nat.reduceMul, reduceCtorEq]
                 have hR : Rotated T T s m en := rot_triv T s m en (.inl c1)
                 obtain ⟨p1, p2, p3, p4, p5, p6⟩ := rot_pre hR (by omega) (by omega) (by omega) (by omega) hbl (show mid = s + (en - m) by omega) hleft hright htags
                 have l1 := hR.1.length_eq
                 refine callO (ih v T a s mid _ _ _ _ (by omega) l1.symm rfl rfl rfl (by omega) ⟨c2.1, c2.2, by omega, p1, p2, p5⟩) ?_
                 rintro r o ⟨T2, rfl, rfl, k2⟩
                 simp (config := {maxSteps := 2000000, implicitDefEqProofs := false}) (disch := omega) only [↓reduceIte, go_sem, Int.reduceToNat, Nat.reduceAdd, Nat.reduceLeDiff, Nat.reduceEqDiff, Nat.reduceSub, Nat.reduceMul, reduceCtorEq, rowT]
                 have l2 := k2.1.len
                 have w : ∀ k, mid ≤ k → T2[k]! = T[k]! := fun k hk => k2.1.rest k (by omega)
                 have s3 : SortedT T2 mid en := p3.same fun k e1 e2 => w k e1
                 have s4 : SortedT T2 en b := p4.same fun k e1 e2 => w k (by omega)
                 refine callO (ih v T2 mid en b _ _ _ _ (by omega) (by omega) rfl (by omega) rfl (by omega) ⟨c3.1, c3.2, by omega, s3, s4, fun p q e1 e2 e3 e4 => by rw [w p e1, w q (by omega)]; exact p6 p q e1 e2 e3 e4⟩) ?_
                 rintro r o ⟨T3, rfl, rfl, k3⟩
                 simp (config := {maxSteps := 2000000, implicitDefEqProofs := false}) (disch := omega) only [↓reduceIte, go_sem, Int.reduceToNat, Nat.reduceAdd, Nat.reduceLeDiff, Nat.reduceEqDiff, Nat.reduceSub, Nat.reduceMul, reduceCtorEq, rowT]
                 exact ⟨T3, rfl, sym_final hR (by omega) (by omega) (by omega) (by omega) hbl (by omega) k2 k3 hx⟩)
            · first
              | (exfalso; omega)
              | (simp (config := {maxSteps := 2000000, implicitDefEqProofs := false}) (disch := omega) only [↓reduceIte, go_sem, Int.reduceToNat, Nat.reduceAdd, Nat.reduceLeDiff, Nat.reduceEqDiff, Nat.reduceSub, Nat.reduceMul, reduceCtorEq]
                 have hR : Rotated T T s m en := rot_triv T s m en (.inr c1)
                 obtain ⟨p1, p2, p3, p4, p5, p6⟩ := rot_pre hR (by omega) (by omega) (by omega) (by omega) hbl (show mid = s + (en - m) by omega) hleft hright htags
                 have l1 := hR.1.length_eq
                 have k2 : Merged T T a mid := ⟨.refl _ _ _, by rw [c2]; exact p2⟩
                 have l2 := k2.1.len
                 have w : ∀ k, mid ≤ k → T[k]! = T[k]! := fun k hk => k2.1.rest k (by omega)
                 have s3 : SortedT T mid en := p3.same fun k e1 e2 => w k e1
                 have s4 : SortedT T en b := p4.same fun k e1 e2 => w k (by omega)
                 have k3 : Merged T T mid b := ⟨.refl _ _ _, by rw [c3]; exact s4⟩
                 exact ⟨T, rfl, sym_final hR (by omega) (by omega) (by omega) (by omega) hbl (by omega) k2 k3 hx⟩)
            · first
              | (exfalso; omega)
              | (simp (config := {maxSteps := 2000000, implicitDefEqProofs := false}) (disch := omega) only [↓reduceIte, go_sem, Int.reduceToNat, Nat.reduceAdd, Nat.reduceLeDiff, Nat.reduceEqDiff, Nat.reduceSub, Nat.reduceMul, reduceCtorEq]
                 have hR : Rotated T T s m en := rot_triv T s m en (.inr c1)
                 obtain ⟨p1, p2, p3, p4, p5, p6⟩ := rot_pre hR (by omega) (by omega) (by omega) (by omega) hbl (show mid = s + (en - m) by omega) hleft hright htags
                 have l1 := hR.1.length_eq
                 have k2 : Merged T T a mid := ⟨.refl _ _ _, by rw [c2]; exact p2⟩
                 have l2 := k2.1.len
                 have w : ∀ k, mid ≤ k → T[k]! = T[k]! := fun k hk => k2.1.rest k (by omega)
                 have s3 : SortedT T mid en := p3.same fun k e1 e2 => w k e1
                 have s4 : SortedT T en b := p4.same fun k e1 e2 => w k (by omega)
                 have k3 : Merged T T mid b := ⟨.refl _ _ _, by rw [← c3]; exact s3⟩
                 exact ⟨T, rfl, sym_final hR (by omega) (by omega) (by omega) (by omega) hbl (by omega) k2 k3 hx⟩)
            · first
              | (exfalso; omega)
              | (simp (config := {maxSteps := 2000000, implicitDefEqProofs := false}) (disch := omega) only [↓reduceIte, go_sem, Int.reduceToNat, Nat.reduceAdd, Nat.reduceLeDiff, Nat.reduceEqDiff, Nat.reduceSub, Nat.reduceMul, reduceCtorEq]
                 have hR : Rotated T T s m en := rot_triv T s m en (.inr c1)
                 obtain ⟨p1, p2, p3, p4, p5, p6⟩ := rot_pre hR (by omega) (by omega) (by omega) (by omega) hbl (show mid = s + (en - m) by omega) hleft hright htags
                 have l1 := hR.1.length_eq
                 have k2 : Merged T T a mid := ⟨.refl _ _ _, by rw [c2]; exact p2⟩
                 have l2 := k2.1.len
                 have w : ∀ k, mid ≤ k → T[k]! = T[k]! := fun k hk => k2.1.rest k (by omega)
                 have s3 : SortedT T mid en := p3.same fun k e1 e2 => w k e1
                 have s4 : SortedT T en b := p4.same fun k e1 e2 => w k (by omega)
                 refine callO (ih v T mid en b _ _ _ _ (by omega) (by omega) rfl (by omega) rfl (by omega) ⟨c3.1, c3.2, by omega, s3, s4, fun p q e1 e2 e3 e4 => by rw [w p e1, w q (by omega)]; exact p6 p q e1 e2 e3 e4⟩) ?_
                 rintro r o ⟨T3, rfl, rfl, k3⟩
                 simp (config := {maxSteps := 2000000, implicitDefEqProofs := false}) (disch := omega) only [↓reduceIte, go_sem, Int.reduceToNat, Nat.reduceAdd, Nat.reduceLeDiff, Nat.reduceEqDiff, Nat.reduceSub, Nat.reduceMul, reduceCtorEq, rowT]
                 exact ⟨T3, rfl, sym_final hR (by omega) (by omega) (by omega) (by omega) hbl (by omega) k2 k3 hx⟩)
            · first
              | (exfalso; omega)
              | (simp (config := {maxSteps := 2000000, implicitDefEqProofs := false}) (disch := omega) only [↓reduceIte, go_sem, Int.reduceToNat, Nat.reduceAdd, Nat.reduceLeDiff, Nat.reduceEqDiff, Nat.reduceSub, Nat.reduceMul, reduceCtorEq]
                 have hR : Rotated T T s m en := rot_triv T s m en (.inr c1)
                 obtain ⟨p1, p2, p3, p4, p5, p6⟩ := rot_pre hR (by omega) (by omega) (by omega) (by omega) hbl (show mid = s + (en - m) by omega) hleft hright htags
                 have l1 := hR.1.length_eq
                 have k2 : Merged T T a mid := ⟨.refl _ _ _, by rw [← c2]; exact p1⟩
                 have l2 := k2.1.len
                 have w : ∀ k, mid ≤ k → T[k]! = T[k]! := fun k hk => k2.1.rest k (by omega)
                 have s3 : SortedT T mid en := p3.same fun k e1 e2 => w k e1
                 have s4 : SortedT T en b := p4.same fun k e1 e2 => w k (by omega)
                 have k3 : Merged T T mid b := ⟨.refl _ _ _, by rw [c3]; exact s4⟩
                 exact ⟨T, rfl, sym_final hR (by omega) (by omega) (by omega) (by omega) hbl (by omega) k2 k3 hx⟩)
            · first
              | (exfalso; omega)
              | (simp (config := {maxSteps := 2000000, implicitDefEqProofs := false}) (disch := omega) only [↓reduceIte, go_sem, Int.reduceToNat, Nat.reduceAdd, Nat.reduceLeDiff, Nat.reduceEqDiff, Nat.reduceSub, Nat.reduceMul, reduceCtorEq]
                 have hR : Rotated T T s m en := rot_triv T s m en (.inr c1)
                 obtain ⟨p1, p2, p3, p4, p5, p6⟩ := rot_pre hR (by omega) (by omega) (by omega) (by omega) hbl (show mid = s + (en - m) by omega) hleft hright htags
                 have l1 := hR.1.length_eq
                 have k2 : Merged T T a mid := ⟨.refl _ _ _, by rw [← c2]; exact p1⟩
                 have l2 := k2.1.len
                 have w : ∀ k, mid ≤ k → T[k]! = T[k]! := fun k hk => k2.1.rest k (by omega)
                 have s3 : SortedT T mid en := p3.same fun k e1 e2 => w k e1
                 have s4 : SortedT T en b := p4.same fun k e1 e2 => w k (by omega)
                 have k3 : Merged T T mid b := ⟨.refl _ _ _, by rw [← c3]; exact s3⟩
                 exact ⟨T, rfl, sym_final hR (by omega) (by omega) (by omega) (by omega) hbl (by omega) k2 k3 hx⟩)
            · first
              | (exfalso; omega)
              | (simp (config := {maxSteps := 2000000, implicitDefEqProofs := false}) (disch := omega) only [↓reduceIte, go_sem, Int.reduceToNat, Nat.reduceAdd, Nat.reduceLeDiff, Nat.reduceEqDiff, Nat.reduceSub, Nat.reduceMul, reduceCtorEq]
                 have hR : Rotated T T s m en := rot_triv T s m en (.inr c1)
                 obtain ⟨p1, p2, p3, p4, p5, p6⟩ := rot_pre hR (by omega) (by omega) (by omega) (by omega) hbl (show mid = s + (en - m) by omega) hleft hright htags
                 have l1 := hR.1.length_eq
                 have k2 : Merged T T a mid := ⟨.refl _ _ _, by rw [← c2]; exact p1⟩
                 have l2 := k2.1.len
                 have w : ∀ k, mid ≤ k → T[k]! = T[k]! := fun k hk => k2.1.rest k (by omega)
                 have s3 : SortedT T mid en := p3.same fun k e1 e2 => w k e1
                 have s4 : SortedT T en b := p4.same fun k e1 e2 => w k (by omega)
                 refine callO (ih v T mid en b _ _ _ _ (by omega) (by omega) rfl (by omega) rfl (by omega) ⟨c3.1, c3.2, by omega, s3, s4, fun p q e1 e2 e3 e4 => by rw [w p e1, w q (by omega)]; exact p6 p q e1 e2 e3 e4⟩) ?_
                 rintro r o ⟨T3, rfl, rfl, k3⟩
                 simp (config := {maxSteps := 2000000, implicitDefEqProofs := false}) (disch := omega) only [↓reduceIte, go_sem, Int.reduceToNat, Nat.reduceAdd, Nat.reduceLeDiff, Nat.reduceEqDiff, Nat.reduceSub, Nat.reduceMul, reduceCtorEq, rowT]
                 exact ⟨T3, rfl, sym_final hR (by omega) (by omega) (by omega) (by omega) hbl (by omega) k2 k3 hx⟩)
            · first
              | (exfalso; omega)
              | (simp (config := {maxSteps := 2000000, implicitDefEqProofs := false}) (disch := omega) only [↓reduceIte, go_sem, Int.reduceToNat, Nat.reduceAdd, Nat.reduceLeDiff, Nat.reduceEqDiff, Nat.reduceSub, Nat.reduceMul, reduceCtorEq]
                 have hR : Rotated T T s m en := rot_triv T s m en (.inr c1)
                 obtain ⟨p1, p2, p3, p4, p5, p6⟩ := rot_pre hR (by omega) (by omega) (by omega) (by omega) hbl (show mid = s + (en - m) by omega) hleft hright htags
                 have l1 := hR.1.length_eq
                 refine callO (ih v T a s mid _ _ _ _ (by omega) l1.symm rfl rfl rfl (by omega) ⟨c2.1, c2.2, by omega, p1, p2, p5⟩) ?_
                 rintro r o ⟨T2, rfl, rfl, k2⟩
                 simp (config := {maxSteps := 2000000, implicitDefEqProofs := false}) (disch := omega) only [↓reduceIte, go_sem, Int.reduceToNat, Nat.reduceAdd, Nat.reduceLeDiff, Nat.reduceEqDiff, Nat.reduceSub, Nat.reduceMul, reduceCtorEq, rowT]
                 have l2 := k2.1.len
                 have w : ∀ k, mid ≤ k → T2[k]! = T[k]! := fun k hk => k2.1.rest k (by omega)
                 have s3 : SortedT T2 mid en := p3.same fun k e1 e2 => w k e1
                 have s4 : SortedT T2 en b := p4.same fun k e1 e2 => w k (by omega)
                 have k3 : Merged T2 T2 mid b := ⟨.refl _ _ _, by rw [c3]; exact s4⟩
                 exact ⟨T2, rfl, sym_final hR (by omega) (by omega) (by omega) (by omega) hbl (by omega) k2 k3 hx⟩)
            · first
              | (exfalso; omega)
              | (simp (config := {maxSteps := 2000000, implicitDefEqProofs := false}) (disch := omega) only [↓reduceIte, go_sem, Int.reduceToNat, Nat.reduceAdd, Nat.reduceLeDiff, Nat.reduceEqDiff, Nat.reduceSub, Nat.reduceMul, reduceCtorEq]
                 have hR : Rotated T T s m en := rot_triv T s m en (.inr c1)
                 obtain ⟨p1, p2, p3, p4, p5, p6⟩ := rot_pre hR (by omega) (by omega) (by omega) (by omega) hbl (show mid = s + (en - m) by omega) hleft hright htags
                 have l1 := hR.1.length_eq
                 refine callO (ih v T a s mid _ _ _ _ (by omega) l1.symm rfl rfl rfl (by omega) ⟨c2.1, c2.2, by omega, p1, p2, p5⟩) ?_
                 rintro r o ⟨T2, rfl, rfl, k2⟩
                 simp (config := {maxSteps := 2000000, implicitDefEqProofs := false}) (disch := omega) only [↓reduceIte, go_sem, Int.reduceToNat, Nat.reduceAdd, Nat.reduceLeDiff, Nat.reduceEqDiff, Nat.reduceSub, Nat.reduceMul, reduceCtorEq, rowT]
                 have l2 := k2.1.len
                 have w : ∀ k, mid ≤ k → T2[k]! = T[k]! := fun k hk => k2.1.rest k (by omega)
                 have s3 : SortedT T2 mid en := p3.same fun k e1 e2 => w k e1
                 have s4 : SortedT T2 en b := p4.same fun k e1 e2 => w k (by omega)
                 have k3 : Merged T2 T2 mid b := ⟨.refl _ _ _, by rw [← c3]; exact s3⟩
                 exact ⟨T2, rfl, sym_final hR (by omega) (by omega) (by omega) (by omega) hbl (by omega) k2 k3 hx⟩)
            · first
              | (exfalso; omega)
              | (simp (config := {maxSteps := 2000000, implicitDefEqProofs := false}) (disch := omega) only [↓reduceIte, go_sem, Int.reduceToNat, Nat.reduceAdd, Nat.reduceLeDiff, Nat.reduceEqDiff, Nat.reduceSub, Nat.reduceMul, reduceCtorEq]
                 have hR : Rotated T T s m en := rot_triv T s m en (.inr c1)
                 obtain ⟨p1, p2, p3, p4, p5, p6⟩ := rot_pre hR (by omega) (by omega) (by omega) (by omega) hbl (show mid = s + (en - m) by omega) hleft hright htags
                 have l1 := hR.1.length_eq
                 refine callO (ih v T a s mid _ _ _ _ (by omega) l1.symm rfl rfl rfl (by omega) ⟨c2.1, c2.2, by omega, p1, p2, p5⟩) ?_
                 rintro r o ⟨T2, rfl, rfl, k2⟩
                 simp (config := {maxSteps := 2000000, implicitDefEqProofs := false}) (disch := omega) only [↓reduceIte, go_sem, Int.reduceToNat, Nat.reduceAdd, Nat.reduceLeDiff, Nat.reduceEqDiff, Nat.reduceSub, Nat.reduceMul, reduceCtorEq, rowT]
                 have l2 := k2.1.len
                 have w : ∀ k, mid ≤ k → T2[k]! = T[k]! := fun k hk => k2.1.rest k (by omega)
                 have s3 : SortedT T2 mid en := p3.same fun k e1 e2 => w k e1
                 have s4 : SortedT T2 en b := p4.same fun k e1 e2 => w k (by omega)
                 refine callO (ih v T2 mid en b _ _ _ _ (by omega) (by omega) rfl (by omega) rfl (by omega) ⟨c3.1, c3.2, by omega, s3, s4, fun p q e1 e2 e3 e4 => by rw [w p e1, w q (by omega)]; exact p6 p q e1 e2 e3 e4⟩) ?_
                 rintro r o ⟨T3, rfl, rfl, k3⟩
                 simp (config := {maxSteps := 2000000, implicitDefEqProofs := false}) (disch := omega) only [↓reduceIte, go_sem, Int.reduceToNat, Nat.reduceAdd, Nat.reduceLeDiff, Nat.reduceEqDiff, Nat.reduceSub, Nat.reduceMul, reduceCtorEq, rowT]
                 exact ⟨T3, rfl, sym_final hR (by omega) (by omega) (by omega) (by omega) hbl (by omega) k2 k3 hx⟩)
            · first
              | (exfalso; omega)
              | (simp (config := {maxSteps := 2000000, implicitDefEqProofs := false}) (disch := omega) only [↓reduceIte, go_sem, Int.reduceToNat, Nat.reduceAdd, Nat.reduceLeDiff, Nat.reduceEqDiff, Nat.reduceSub, Nat.reduceMul, reduceCtorEq]
                 refine callO (C63i v T s m en _ _ _ _ rfl rfl (by omega) rfl c1.1 c1.2 (by omega) hl) ?_
                 rintro r o ⟨T1, rfl, rfl, hR⟩
                 simp (config := {maxSteps := 2000000, implicitDefEqProofs := false}) (disch := omega) only [↓reduceIte, go_sem, Int.reduceToNat, Nat.reduceAdd, Nat.reduceLeDiff, Nat.reduceEqDiff, Nat.reduceSub, Nat.reduceMul, reduceCtorEq, rowT]
                 obtain ⟨p1, p2, p3, p4, p5, p6⟩ := rot_pre hR (by omega) (by omega) (by omega) (by omega) hbl (show mid = s + (en - m) by omega) hleft hright htags
                 have l1 := hR.1.length_eq
                 have k2 : Merged T1 T1 a mid := ⟨.refl _ _ _, by rw [c2]; exact p2⟩
                 have l2 := k2.1.len
                 have w : ∀ k, mid ≤ k → T1[k]! = T1[k]! := fun k hk => k2.1.rest k (by omega)
                 have s3 : SortedT T1 mid en := p3.same fun k e1 e2 => w k e1
                 have s4 : SortedT T1 en b := p4.same fun k e1 e2 => w k (by omega)
                 have k3 : Merged T1 T1 mid b := ⟨.refl _ _ _, by rw [c3]; exact s4⟩
                 exact ⟨T1, rfl, sym_final hR (by omega) (by omega) (by omega) (by omega) hbl (by omega) k2 k3 hx⟩)
            · first
              | (exfalso; omega)
              | (simp (config := {maxSteps := 2000000, implicitDefEqProofs := false}) (disch := omega) only [↓reduceIte, go_sem, Int.reduceToNat, Nat.reduceAdd, Nat.reduceLeDiff, Nat.reduceEqDiff, Nat.reduceSub, Nat.reduceMul, reduceCtorEq]
                 refine callO (C63i v T s m en _ _ _ _ rfl rfl (by omega) rfl c1.1 c1.2 (by omega) hl) ?_
                 rintro r o ⟨T1, rfl, rfl, hR⟩
                 simp (config := {maxSteps := 2000000, implicitDefEqProofs := false}) (disch := omega) only [↓reduceIte, go_sem, Int.reduceToNat, Nat.reduceAdd, Nat.reduceLeDiff, Nat.reduceEqDiff, Nat.reduceSub, Nat.reduceMul, reduceCtorEq, rowT]
                 obtain ⟨p1, p2, p3, p4, p5, p6⟩ := rot_pre hR (by omega) (by omega) (by omega) (by omega) hbl (show mid = s + (en - m) by omega) hleft hright htags
                 have l1 := hR.1.length_eq
                 have k2 : Merged T1 T1 a mid := ⟨.refl _ _ _, by rw [c2]; exact p2⟩
                 have l2 := k2.1.len
                 have w : ∀ k, mid ≤ k → T1[k]! = T1[k]! := fun k hk => k2.1.rest k (by omega)
                 have s3 : SortedT T1 mid en := p3.same fun k e1 e2 => w k e1
                 have s4 : SortedT T1 en b := p4.same fun k e1 e2 => w k (by omega)
                 have k3 : Merged T1 T1 mid b := ⟨.refl _ _ _, by rw [← c3]; exact s3⟩
                 exact ⟨T1, rfl, sym_final hR (by omega) (by omega) (by omega) (by omega) hbl (by omega) k2 k3 hx⟩)
            · first
              | (exfalso; omega)
              | (simp (config := {maxSteps := 2000000, implicitDefEqProofs := false}) (disch := omega) only [↓reduceIte, go_sem, Int.reduceToNat, Nat.reduceAdd, Nat.reduceLeDiff, Nat.reduceEqDiff, Nat.reduceSub, Nat.reduceMul, reduceCtorEq]
                 refine callO (C63i v T s m en _ _ _ _ rfl rfl (by omega) rfl c1.1 c1.2 (by omega) hl) ?_
                 rintro r o ⟨T1, rfl, rfl, hR⟩
                 simp (config := {maxSteps := 2000000, implicitDefEqProofs := false}) (disch := omega) only [↓reduceIte, go_sem, Int.reduceToNat, Nat.reduceAdd, Nat.reduceLeDiff, Nat.reduceEqDiff, Nat.reduceSub, Nat.reduceMul, reduceCtorEq, rowT]
                 obtain ⟨p1, p2, p3, p4, p5, p6⟩ := rot_pre hR (by omega) (by omega) (by omega) (by omega) hbl (show mid = s + (en - m) by omega) hleft hright htags
                 have l1 := hR.1.length_eq
                 have k2 : Merged T1 T1 a mid := ⟨.refl _ _ _, by rw [c2]; exact p2⟩
                 have l2 := k2.1.len
                 have w : ∀ k, mid ≤ k → T1[k]! = T1[k]! := fun k hk => k2.1.rest k (by omega)
                 have s3 : SortedT T1 mid en := p3.same fun k e1 e2 => w k e1
                 have s4 : SortedT T1 en b := p4.same fun k e1 e2 => w k (by omega)
                 refine callO (ih v T1 mid en b _ _ _ _ (by omega) (by omega) rfl (by omega) rfl (by omega) ⟨c3.1, c3.2, by omega, s3, s4, fun p q e1 e2 e3 e4 => by rw [w p e1, w q (by omega)]; exact p6 p q e1 e2 e3 e4⟩) ?_
                 rintro r o ⟨T3, rfl, rfl, k3⟩
                 simp (config := {maxSteps := 2000000, implicitDefEqProofs := false}) (disch := omega) only [↓reduceIte, go_sem, Int.reduceToNat, Nat.reduceAdd, Nat.reduceLeDiff, Nat.reduceEqDiff, Nat.reduceSub, Nat.reduceMul, reduceCtorEq, rowT]
                 exact ⟨T3, rfl, sym_final hR (by omega) (by omega) (by omega) (by omega) hbl (by omega) k2 k3 hx⟩)
            · first
              | (exfalso; omega)
              | (simp (config := {maxSteps := 2000000, implicitDefEqProofs := false}) (disch := omega) only [↓reduceIte, go_sem, Int.reduceToNat, Nat.reduceAdd, Nat.reduceLeDiff, Nat.reduceEqDiff, Nat.reduceSub, Nat.reduceMul, reduceCtorEq]
                 refine callO (C63i v T s m en _ _ _ _ rfl rfl (by omega) rfl c1.1 c1.2 (by omega) hl) ?_
                 rintro r o ⟨T1, rfl, rfl, hR⟩
                 simp (config := {maxSteps := 2000000, implicitDefEqProofs := false}) (disch := omega) only [↓reduceIte, go_sem, Int.reduceToNat, Nat.reduceAdd, Nat.reduceLeDiff, Nat.reduceEqDiff, Nat.reduceSub, Nat.reduceMul, reduceCtorEq, rowT]
                 obtain ⟨p1, p2, p3, p4, p5, p6⟩ := rot_pre hR (by omega) (by omega) (by omega) (by omega) hbl (show mid = s + (en - m) by omega) hleft hright htags
                 have l1 := hR.1.length_eq
                 have k2 : Merged T1 T1 a mid := ⟨.refl _ _ _, by rw [← c2]; exact p1⟩
                 have l2 := k2.1.len
                 have w : ∀ k, mid ≤ k → T1[k]! = T1[k]! := fun k hk => k2.1.rest k (by omega)
                 have s3 : SortedT T1 mid en := p3.same fun k e1 e2 => w k e1
                 have s4 : SortedT T1 en b := p4.same fun k e1 e2 => w k (by omega)
                 have k3 : Merged T1 T1 mid b := ⟨.refl _ _ _, by rw [c3]; exact s4⟩
                 exact ⟨T1, rfl, sym_final hR (by omega) (by omega) (by omega) (by omega) hbl (by omega) k2 k3 hx⟩)
            · first
              | (exfalso; omega)
              | (simp (config := {maxSteps := 2000000, implicitDefEqProofs := false}) (disch := omega) only [↓reduceIte, go_sem, Int.reduceToNat, Nat.reduceAdd, Nat.reduceLeDiff, Nat.reduceEqDiff, Nat.reduceSub, Nat.reduceMul, reduceCtorEq]
                 refine callO (C63i v T s m en _ _ _ _ rfl rfl (by omega) rfl c1.1 c1.2 (by omega) hl) ?_
                 rintro r o ⟨T1, rfl, rfl, hR⟩
                 simp (config := {maxSteps := 2000000, implicitDefEqProofs := false}) (disch := omega) only [↓reduceIte, go_sem, Int.reduceToNat, Nat.reduceAdd, Nat.reduceLeDiff, Nat.reduceEqDiff, Nat.reduceSub, Nat.reduceMul, reduceCtorEq, rowT]
                 obtain ⟨p1, p2, p3, p4, p5, p6⟩ := rot_pre hR (by omega) (by omega) (by omega) (by omega) hbl (show mid = s + (en - m) by omega) hleft hright htags
                 have l1 := hR.1.length_eq
                 have k2 : Merged T1 T1 a mid := ⟨.refl _ _ _, by rw [← c2]; exact p1⟩
                 have l2 := k2.1.len
                 have w : ∀ k, mid ≤ k → T1[k]! = T1[k]! := fun k hk => k2.1.rest k (by omega)
                 have s3 : SortedT T1 mid en := p3.same fun k e1 e2 => w k e1
                 have s4 : SortedT T1 en b := p4.same fun k e1 e2 => w k (by omega)
                 have k3 : Merged T1 T1 mid b := ⟨.refl _ _ _, by rw [← c3]; exact s3⟩
                 exact ⟨T1, rfl, sym_final hR (by omega) (by omega) (by omega) (by omega) hbl (by omega) k2 k3 hx⟩)
            · first
              | (exfalso; omega)
              | (simp (config := {maxSteps := 2000000, implicitDefEqProofs := false}) (disch := omega) only [↓reduceIte, go_sem, Int.reduceToNat, Nat.reduceAdd, Nat.reduceLeDiff, Nat.reduceEqDiff, Nat.reduceSub, Nat.reduceMul, reduceCtorEq]
                 refine callO (C63i v T s m en _ _ _ _ rfl rfl (by omega) rfl c1.1 c1.2 (by omega) hl) ?_
                 rintro r o ⟨T1, rfl, rfl, hR⟩
                 simp (config := {maxSteps := 2000000, implicitDefEqProofs := false}) (disch := omega) only [↓reduceIte, go_sem, Int.reduceToNat, Nat.reduceAdd, Nat.reduceLeDiff, Nat.reduceEqDiff, Nat.reduceSub, Nat.reduceMul, reduceCtorEq, rowT]
                 obtain ⟨p1, p2, p3, p4, p5, p6⟩ := rot_pre hR (by omega) (by omega) (by omega) (by omega) hbl (show mid = s + (en - m) by omega) hleft hright htags
                 have l1 := hR.1.length_eq
                 have k2 : Merged T1 T1 a mid := ⟨.refl _ _ _, by rw [← c2]; exact p1⟩
                 have l2 := k2.1.len
                 have w : ∀ k, mid ≤ k → T1[k]! = T1[k]! := fun k hk => k2.1.rest k (by omega)
                 have s3 : SortedT T1 mid en := p3.same fun k e1 e2 => w k e1
                 have s4 : SortedT T1 en b := p4.same fun k e1 e2 => w k (by omega)
                 refine callO (ih v T1 mid en b _ _ _ _ (by omega) (by omega) rfl (by omega) rfl (by omega) ⟨c3.1, c3.2, by omega, s3, s4, fun p q e1 e2 e3 e4 => by rw [w p e1, w q (by omega)]; exact p6 p q e1 e2 e3 e4⟩) ?_
                 rintro r o ⟨T3, rfl, rfl, k3⟩
                 simp (config := {maxSteps := 2000000, implicitDefEqProofs := false}) (disch := omega) only [↓reduceIte, go_sem, Int.reduceToNat, Nat.reduceAdd, Nat.reduceLeDiff, Nat.reduceEqDiff, Nat.reduceSub, Nat.reduceMul, reduceCtorEq, rowT]
                 exact ⟨T3, rfl, sym_final hR (by omega) (by omega) (by omega) (by omega) hbl (by omega) k2 k3 hx⟩)
            · first
              | (exfalso; omega)
              | (simp (config := {maxSteps := 2000000, implicitDefEqProofs := false}) (disch := omega) only [↓reduceIte, go_sem, Int.reduceToNat, Nat.reduceAdd, Nat.reduceLeDiff, Nat.reduceEqDiff, Nat.reduceSub, Nat.reduceMul, reduceCtorEq]
                 refine callO (C63i v T s m en _ _ _ _ rfl rfl (by omega) rfl c1.1 c1.2 (by omega) hl) ?_
                 rintro r o ⟨T1, rfl, rfl, hR⟩
                 simp (config := {maxSteps := 2000000, implicitDefEqProofs := false}) (disch := omega) only [↓reduceIte, go_sem, Int.reduceToNat, Nat.reduceAdd, Nat.reduceLeDiff, Nat.reduceEqDiff, Nat.reduceSub, Nat.reduceMul, reduceCtorEq, rowT]
                 obtain ⟨p1, p2, p3, p4, p5, p6⟩ := rot_pre hR (by omega) (by omega) (by omega) (by omega) hbl (show mid = s + (en - m) by omega) hleft hright htags
                 have l1 := hR.1.length_eq
                 refine callO (ih v T1 a s mid _ _ _ _ (by omega) l1.symm rfl rfl rfl (by omega) ⟨c2.1, c2.2, by omega, p1, p2, p5⟩) ?_
                 rintro r o ⟨T2, rfl, rfl, k2⟩
                 simp (config := {maxSteps := 2000000, implicitDefEqProofs := false}) (disch := omega) only [↓reduceIte, go_sem, Int.reduceToNat, Nat.reduceAdd, Nat.reduceLeDiff, Nat.reduceEqDiff, Nat.reduceSub, Nat.reduceMul, reduceCtorEq, rowT]
                 have l2 := k2.1.len
                 have w : ∀ k, mid ≤ k → T2[k]! = T1[k]! := fun k hk => k2.1.rest k (by omega)
                 have s3 : SortedT T2 mid en := p3.same fun k e1 e2 => w k e1
                 have s4 : SortedT T2 en b := p4.same fun k e1 e2 => w k (by omega)
                 have k3 : Merged T2 T2 mid b := ⟨.refl _ _ _, by rw [c3]; exact s4⟩
                 exact ⟨T2, rfl, sym_final hR (by omega) (by omega) (by omega) (by omega) hbl (by omega) k2 k3 hx⟩)
            · first
              | (exfalso; omega)
              | (simp (config := {maxSteps := 2000000, implicitDefEqProofs := false}) (disch := omega) only [↓reduceIte, go_sem, Int.reduceToNat, Nat.reduceAdd, Nat.reduceLeDiff, Nat.reduceEqDiff, Nat.reduceSub, Nat.reduceMul, reduceCtorEq]
                 refine callO (C63i v T s m en _ _ _ _ rfl rfl (by omega) rfl c1.1 c1.2 (by omega) hl) ?_
                 rintro r o ⟨T1, rfl, rfl, hR⟩
                 simp (config := {maxSteps := 2000000, implicitDefEqProofs := false}) (disch := omega) only [↓reduceIte, go_sem, Int.reduceToNat, Nat.reduceAdd, Nat.reduceLeDiff, Nat.reduceEqDiff, Nat.reduceSub, Nat.reduceMul, reduceCtorEq, rowT]
                 obtain ⟨p1, p2, p3, p4, p5, p6⟩ := rot_pre hR (by omega) (by omega) (by omega) (by omega) hbl (show mid = s + (en - m) by omega) hleft hright htags
                 have l1 := hR.1.length_eq
                 refine callO (ih v T1 a s mid _ _ _ _ (by omega) l1.symm rfl rfl rfl (by omega) ⟨c2.1, c2.2, by omega, p1, p2, p5⟩) ?_
                 rintro r o ⟨T2, rfl, rfl, k2⟩
                 simp (config := {maxSteps := 2000000, implicitDefEqProofs := false}) (disch := omega) only [↓reduceIte, go_sem, Int.reduceToNat, Nat.reduceAdd, Nat.reduceLeDiff, Nat.reduceEqDiff, Nat.reduceSub, Nat.reduceMul, reduceCtorEq, rowT]
                 have l2 := k2.1.len
                 have w : ∀ k, mid ≤ k → T2[k]! = T1[k]! := fun k hk => k2.1.rest k (by omega)
                 have s3 : SortedT T2 mid en := p3.same fun k e1 e2 => w k e1
                 have s4 : SortedT T2 en b := p4.same fun k e1 e2 => w k (by omega)
                 have k3 : Merged T2 T2 mid b := ⟨.refl _ _ _, by rw [← c3]; exact s3⟩
                 exact ⟨T2, rfl, sym_final hR (by omega) (by omega) (by omega) (by omega) hbl (by omega) k2 k3 hx⟩)
            · first
              | (exfalso; omega)
              | (simp (config := {maxSteps := 2000000, implicitDefEqProofs := false}) (disch := omega) only [↓reduceIte, go_sem, Int.reduceToNat, Nat.reduceAdd, Nat.reduceLeDiff, Nat.reduceEqDiff, Nat.reduceSub, Nat.reduceMul, reduceCtorEq]
                 refine callO (C63i v T s m en _ _ _ _ rfl rfl (by omega) rfl c1.1 c1.2 (by omega) hl) ?_
                 rintro r o ⟨T1, rfl, rfl, hR⟩
                 simp (config := {maxSteps := 2000000, implicitDefEqProofs := false}) (disch := omega) only [↓reduceIte, go_sem, Int.reduceToNat, Nat.reduceAdd, Nat.reduceLeDiff, Nat.reduceEqDiff, Nat.reduceSub, Nat.reduceMul, reduceCtorEq, rowT]
                 obtain ⟨p1, p2, p3, p4, p5, p6⟩ := rot_pre hR (by omega) (by omega) (by omega) (by omega) hbl (show mid = s + (en - m) by omega) hleft hright htags
                 have l1 := hR.1.length_eq
                 refine callO (ih v T1 a s mid _ _ _ _ (by omega) l1.symm rfl rfl rfl (by omega) ⟨c2.1, c2.2, by omega, p1, p2, p5⟩) ?_
                 rintro r o ⟨T2, rfl, rfl, k2⟩
                 simp (config := {maxSteps := 2000000, implicitDefEqProofs := false}) (disch := omega) only [↓reduceIte, go_sem, Int.reduceToNat, Nat.reduceAdd, Nat.reduceLeDiff, Nat.reduceEqDiff, Nat.reduceSub, Nat.reduceMul, reduceCtorEq, rowT]
                 have l2 := k2.1.len
                 have w : ∀ k, mid ≤ k → T2[k]! = T1[k]! := fun k hk => k2.1.rest k (by omega)
                 have s3 : SortedT T2 mid en := p3.same fun k e1 e2 => w k e1
                 have s4 : SortedT T2 en b := p4.same fun k e1 e2 => w k (by omega)
                 refine callO (ih v T2 mid en b _ _ _ _ (by omega) (by omega) rfl (by omega) rfl (by omega) ⟨c3.1, c3.2, by omega, s3, s4, fun p q e1 e2 e3 e4 => by rw [w p e1, w q (by omega)]; exact p6 p q e1 e2 e3 e4⟩) ?_
                 rintro r o ⟨T3, rfl, rfl, k3⟩
                 simp (config := {maxSteps := 2000000, implicitDefEqProofs := false}) (disch := omega) only [↓reduceIte, go_sem, Int.reduceToNat, Nat.reduceAdd, Nat.reduceLeDiff, Nat.reduceEqDiff, Nat.reduceSub, Nat.reduceMul, reduceCtorEq, rowT]
                 exact ⟨T3, rfl, sym_final hR (by omega) (by omega) (by omega) (by omega) hbl (by omega) k2 k3 hx⟩)
end Go.Proofs.Ytcpjfjdlifjbhaa.X
