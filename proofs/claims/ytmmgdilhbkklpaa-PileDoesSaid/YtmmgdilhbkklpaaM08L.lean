import Derived.Test.YtmmgdilhbkklpaaM08K
namespace Go.Proofs.Ytmmgdilhbkklpaa.X
open Go Go.AM Go.Proofs
attribute [local go_sem ↓] w_skip w_lbl w_ops w_draw w_pre w_post w_alt w_seq w_cond w_block w_loop w_exit w_ret w_scope th_n th_e th_r bk_n bk_r bk_e t_nil t_it t_call i_nil i_one i_grp s_nil s_cons c_call e_mv e_frz o_mov o_bin o_eq o_un o_conv o_len o_slen o_idx o_aix o_fad o_load o_store o_boxp o_boxo o_boxm o_alloc o_alloca o_nilarr o_build o_bslp o_bslo o_slc o_sslc o_slc3 o_sidx o_mkfn o_ext o_pick o_callf o_callb o_appd o_clear o_mxn o_field o_nilc o_make o_buildm o_boxg o_mkif o_tass o_eqs o_callo k_int k_str k_bool k_grb k_grt k_some k_none k_arr k_lens k_lenf k_lenh k_idxs k_idxf k_idxh k_ld k_loadp k_loadr k_loade k_storer k_storee k_oin k_ois k_slcs k_slcf k_slch k_slc3s k_slc3f k_slc3h k_app2 k_apps k_appf k_apph k_cals k_cald k_cali k_cnb k_cna k_esn k_esc k_efn k_efc k_esh b_add b_sub b_mul b_quo b_rem b_and b_or b_xor b_andNot b_eql b_neq b_lss b_leq b_gtr b_geq b_shl b_shr b_seq b_sne b_slt b_sad q_bool q_str q_nil q_nilf u_not u_neg u_xor f_ret f_nor v_r v_c v_reg v_ob v_set v_put v_so v_sn v_pn v_pc g_nil d_nil p_nil m_mv m_fr z_nil z_cons z_an z_ac g_cons d_cons p_cons y_mov y_bin y_eq y_un y_conv y_len y_slen y_idx y_aix y_fad y_load y_store y_boxp y_boxo y_boxm y_alloc y_alloca y_nilarr y_build y_bslp y_bslo y_slc y_sslc y_slc3 y_sidx y_mkfn y_ext y_pick y_callf y_callb y_appd y_clear y_mxn y_field y_nilc y_make y_buildm y_boxg y_mkif y_tass y_eqs y_callo nb_if
attribute [local go_sem] VL_mk VL2_mk If_t If_f If_not If_and If_or If_dt If_df If_et If_ef If_ne Ck_t Ck_h Opt_s ld_a ld_c renL ren keepR renA idxM invL getObs mapOb renOb allNone putAll fzR fzO fz fzL fzOb frzOk upFrom mapR resOne resA cellsOf oneA oneAL isP isPL okSt kRows kParts fillA setAt bor bor0 bor1 bor2 borC borI key0 key1 key2 keysA fillM cellsM cellM unif ptrA ifOk kPartsM getObsM allNoneM zipU scal0 scalar eqC evNil evNilF List.map_cons List.map_nil List.cons_append List.nil_append List.append_nil List.drop_zero List.drop_succ_cons List.drop_nil List.take_succ_cons List.take_zero List.take_nil List.length_cons List.length_nil List.length_map List.getElem?_map Option.map_some Option.map_none Int.toNat_natCast Int.toNat_zero Int.toNat_one Int.natCast_nonneg List.flatMap_cons List.flatMap_nil List.all_cons List.all_nil Bool.and_true Bool.true_and Bool.and_false Bool.false_and Bool.not_true Bool.not_false beq_self_eq_true nb_self all_nil List.forall_mem_cons tk_map tk_app bs_self bs_dec bq_t bq_f Bool.not_not decide_true decide_false Bool.not_not and_self and_true true_and eq_self List.reverse_cons List.reverse_nil List.getElem?_cons_zero List.getElem?_cons_succ cond_true cond_false List.set_cons_zero List.set_cons_succ Nat.zero_add Nat.add_zero if_true if_false ite_true ite_false implies_true wrap64 wrap8
set_option linter.unusedVariables false
set_option linter.unusedSimpArgs false
set_option maxRecDepth 10000
theorem best_mem {l : List It} (h : 0 < l.length) : best l ∈ l := by
  have hf := fst_lt h
  unfold best
  rw [getElem!_pos l _ hf]
  exact List.getElem_mem hf
theorem best_le {l : List It} : ∀ x ∈ l, bef x (best l) = false := by
  intro x hx
  obtain ⟨i, hi, rfl⟩ := List.mem_iff_getElem.1 hx
  have := fI_best l (l.length - 1) i (by omega)
  rwa [getElem!_pos l i hi] at this
theorem rst_perm {l : List It} (h : 0 < l.length) : l.Perm (best l :: rst l) := by
  have hf := fst_lt h
  unfold best rst
  rw [getElem!_pos l _ hf]
  generalize fst l = k at hf
  rw [List.eraseIdx_eq_take_drop_succ]
  have h1 : l = l.take k ++ l[k] :: l.drop (k + 1) := by rw [List.getElem_cons_drop, List.take_append_drop]
  exact (List.Perm.of_eq h1).trans List.perm_middle
/-- A heap and a plain row of the same items. -/
structure Sim (p x : List It) : Prop where
  heap : HeapFrom p p.length 0
  perm : p.Perm x
namespace Sim
variable {p x : List It}
theorem len (h : Sim p x) : x.length = p.length := h.perm.length_eq.symm
theorem best (h : Sim p x) (h0 : 0 < p.length) : X.best x = p[0]! := by
  have hm : p[0]! ∈ p := by rw [getElem!_pos p 0 h0]; exact List.getElem_mem h0
  have hb := best_mem (l := x) (by rw [h.len]; exact h0)
  exact bef_eq (root_mem h.heap _ (h.perm.mem_iff.2 hb)) (best_le _ (h.perm.mem_iff.1 hm))
theorem rest (h : Sim p x) (h0 : 0 < p.length) : Sim (X.rest p) (rst x) := by
  refine ⟨rest_heap h.heap h0, ?_⟩
  have h1 := rst_perm (l := x) (by rw [h.len]; exact h0)
  rw [h.best h0] at h1
  exact ((popF_perm h0).symm.trans (h.perm.trans h1)).cons_inv
theorem push (h : Sim p x) (y : It) : Sim (pushF p y) (x ++ [y]) := by
  refine ⟨by rw [pushF_len]; exact pushF_heap h.heap, (pushF_perm p y).trans ((h.perm.cons y).trans ?_)⟩
  exact List.perm_append_comm (l₁ := [y]) (l₂ := x)
theorem chg (h : Sim p x) (a k : Int) : Sim (heapify (p.map (X.chg a k))) (x.map (X.chg a k)) := ⟨heapify_heap' _, (heapify_perm _).trans (h.perm.map _)⟩
theorem cnt (h : Sim p x) (a : Int) : cnt a p = X.cnt a x := h.perm.countP_eq _
theorem drain : ∀ (n : Nat) {p x : List It} (junk : List (List AV)), Sim p x → (drainF n p junk).1 = (rdrain n x).1 ∧ Sim (drainF n p junk).2.1 (rdrain n x).2
  | 0, p, x, junk, h => ⟨rfl, h⟩
  | n + 1, p, x, junk, h => by
    simp only [drainF, rdrain, h.len]
    split
    · exact ⟨rfl, h⟩
    · rename_i hz
      obtain ⟨h1, h2⟩ := drain n (encIt p[0]! :: junk) (h.rest (by omega))
      exact ⟨by rw [h1, h.best (by omega)], h2⟩
end Sim
theorem sim_new (l : List It) : Sim (heapify l) l := ⟨heapify_heap' l, heapify_perm l⟩
theorem drainF_len : ∀ (n : Nat) (l : List It) (junk : List (List AV)), (drainF n l junk).1.length + (drainF n l junk).2.1.length = l.length
  | 0, l, junk => by simp [drainF]
  | n + 1, l, junk => by
    simp only [drainF]
    split
    · simp
    · have h := drainF_len n (rest l) (encIt l[0]! :: junk)
      have h2 := rest_len (l := l)
      simp only [List.length_cons]
      omega
structure Deed where
  kind : Int
  x : It
  n : Int
def encD (d : Deed) : List AV := [.int .u8 d.kind, .int .i64 d.x.key, .int .i64 d.x.value, .int .i64 d.n]
set_option maxHeartbeats 8000000 in
theorem C4 (l : List It) (m : List Deed) (hl : l.length ≤ 9223372036854775807) (hm : m.length ≤ 9223372036854775807) : Ctr Try.prog 4 [.sl (l.map encIt), .sl (m.map encD)] [] (ret [.bool true]) := by
  apply ctr_b A4_ok rfl (Nat.le_of_ble_eq_true rfl)
  unfold A4
  simp only [initL, Nat.reduceAdd]
  simp (config := {maxSteps := 2000000, implicitDefEqProofs := false}) (disch := omega) only [↓reduceIte, go_sem, Int.reduceToNat, Nat.reduceAdd, Nat.reduceLeDiff, Nat.reduceEqDiff, Nat.reduceSub, Nat.reduceMul, reduceCtorEq]
  refine ifD (fun g => ?_) (fun g => ?_)
  · simp (config := {maxSteps := 2000000, implicitDefEqProofs := false}) (disch := omega) only [↓reduceIte, go_sem, Int.reduceToNat, Nat.reduceAdd, Nat.reduceLeDiff, Nat.reduceEqDiff, Nat.reduceSub, Nat.reduceMul, reduceCtorEq]
    refine callL C6 ?_
    simp (config := {maxSteps := 2000000, implicitDefEqProofs := false}) (disch := omega) only [↓reduceIte, go_sem, Int.reduceToNat, Nat.reduceAdd, Nat.reduceLeDiff, Nat.reduceEqDiff, Nat.reduceSub, Nat.reduceMul, reduceCtorEq]
    exact ⟨rfl, rfl⟩
  simp (config := {maxSteps := 2000000, implicitDefEqProofs := false}) (disch := omega) only [↓reduceIte, go_sem, Int.reduceToNat, Nat.reduceAdd, Nat.reduceLeDiff, Nat.reduceEqDiff, Nat.reduceSub, Nat.reduceMul, reduceCtorEq]
  refine ifD (fun g' => ?_) (fun g' => ?_)
  · simp (config := {maxSteps := 2000000, implicitDefEqProofs := false}) (disch := omega) only [↓reduceIte, go_sem, Int.reduceToNat, Nat.reduceAdd, Nat.reduceLeDiff, Nat.reduceEqDiff, Nat.reduceSub, Nat.reduceMul, reduceCtorEq]
    refine callL C6 ?_
    simp (config := {maxSteps := 2000000, implicitDefEqProofs := false}) (disch := omega) only [↓reduceIte, go_sem, Int.reduceToNat, Nat.reduceAdd, Nat.reduceLeDiff, Nat.reduceEqDiff, Nat.reduceSub, Nat.reduceMul, reduceCtorEq]
    exact ⟨rfl, rfl⟩
  have g : l.length ≤ 60 := by omega
  have g' : m.length ≤ 80 := by omega
  simp (config := {maxSteps := 2000000, implicitDefEqProofs := false}) (disch := omega) only [↓reduceIte, go_sem, Int.reduceToNat, Nat.reduceAdd, Nat.reduceLeDiff, Nat.reduceEqDiff, Nat.reduceSub, Nat.reduceMul, reduceCtorEq]
  refine callO (C7' l (by omega)) ?_
  rintro r o ⟨v, rfl, rfl⟩
  simp (config := {maxSteps := 2000000, implicitDefEqProofs := false}) (disch := omega) only [↓reduceIte, go_sem, Int.reduceToNat, Nat.reduceAdd, Nat.reduceLeDiff, Nat.reduceEqDiff, Nat.reduceSub, Nat.reduceMul, reduceCtorEq]
  refine ckL (fun c hc => by obtain ⟨z, _, rfl⟩ := List.mem_map.1 hc; rfl) ?_
  simp (config := {maxSteps := 2000000, implicitDefEqProofs := false}) (disch := omega) only [↓reduceIte, go_sem, Int.reduceToNat, Nat.reduceAdd, Nat.reduceLeDiff, Nat.reduceEqDiff, Nat.reduceSub, Nat.reduceMul, reduceCtorEq]
  refine loopL (σ := Nat × Nat × List It × List (List AV) × Nat × List It) (fun s => ⟨[(1, .sl (m.map encD)), (5, .ref 90 0), (6, .hs 36 s.2.2.2.2.1 0 s.2.2.2.2.2.length), (7, .int .i64 s.1)],
      [(36, .arr s.2.2.2.2.1 2 (s.2.2.2.2.2.map encIt)), (90, .box [.hs 91 s.2.1 0 s.2.2.1.length, .fn 19 []]), (91, .arr s.2.1 2 (s.2.2.1.map encIt ++ s.2.2.2.1))]⟩)
    (fun s => s.1 ≤ m.length ∧ Sim s.2.2.1 s.2.2.2.2.2 ∧ s.2.2.1.length ≤ 60 + s.1) (fun s => m.length - s.1) (0, v, heapify l, [], 1, l) (by simp (config := {maxSteps := 2000000, implicitDefEqProofs := false}) (disch := omega) only [↓reduceIte, go_sem, Int.reduceToNat, Nat.reduceAdd, Nat.reduceLeDiff, Nat.reduceEqDiff, Nat.reduceSub, Nat.reduceMul, reduceCtorEq]; simp) ⟨Nat.zero_le _, sim_new l, by rw [heapify_len]; simp only; omega⟩ ?_
  rintro ⟨k, v, p, junk, w, x⟩ ⟨hk, hs, hp⟩
  simp only at hk hs hp
  simp (config := {maxSteps := 2000000, implicitDefEqProofs := false}) (disch := omega) only [↓reduceIte, go_sem, Int.reduceToNat, Nat.reduceAdd, Nat.reduceLeDiff, Nat.reduceEqDiff, Nat.reduceSub, Nat.reduceMul, reduceCtorEq]
  refine ifD (fun h1 => ?_) (fun h1 => ?_)
  · obtain ⟨d, hd⟩ : ∃ a, m[k]? = some a := ⟨_, List.getElem?_eq_getElem (by omega)⟩
    have hxl := hs.len
    simp (config := {maxSteps := 2000000, implicitDefEqProofs := false}) (disch := omega) only [↓reduceIte, go_sem, Int.reduceToNat, Nat.reduceAdd, Nat.reduceLeDiff, Nat.reduceEqDiff, Nat.reduceSub, Nat.reduceMul, reduceCtorEq, hd, encD]
    refine ifE (fun h2 => ?_) (fun h2 => ?_)
    · simp (config := {maxSteps := 2000000, implicitDefEqProofs := false}) (disch := omega) only [↓reduceIte, go_sem, Int.reduceToNat, Nat.reduceAdd, Nat.reduceLeDiff, Nat.reduceEqDiff, Nat.reduceSub, Nat.reduceMul, reduceCtorEq, hd, encD]
      have hs' := hs.push ⟨d.x.key, d.x.value⟩
      have hl0 := pushF_len p ⟨d.x.key, d.x.value⟩
      have hC := C10 v p junk ⟨d.x.key, d.x.value⟩ (by omega)
      have hmx : x.map encIt ++ [[.int .i64 d.x.key, .int .i64 d.x.value]] = (x ++ [(⟨d.x.key, d.x.value⟩ : It)]).map encIt := by simp [encIt]
      have hlx : x.length + 1 = (x ++ [⟨d.x.key, d.x.value⟩] : List It).length := by simp
      simp only [pileO, encIt] at hC
      generalize pushF p ⟨d.x.key, d.x.value⟩ = p' at hs' hl0 hC
      generalize x ++ [(⟨d.x.key, d.x.value⟩ : It)] = x' at hs' hmx hlx
      generalize junk.drop 1 = junk' at hC
      generalize pushV v junk = v' at hC
      refine callD hC ?_
      simp (config := {maxSteps := 2000000, implicitDefEqProofs := false}) (disch := omega) only [↓reduceIte, go_sem, Int.reduceToNat, Nat.reduceAdd, Nat.reduceLeDiff, Nat.reduceEqDiff, Nat.reduceSub, Nat.reduceMul, reduceCtorEq, hd, encD, hmx, hlx]

      have h0' : 0 < p'.length := by omega
      have hb' := hs'.best h0'
      have hl' := hs'.len
      refine callL (C16 p' h0') ?_
      simp (config := {maxSteps := 2000000, implicitDefEqProofs := false}) (disch := omega) only [↓reduceIte, go_sem, Int.reduceToNat, Nat.reduceAdd, Nat.reduceLeDiff, Nat.reduceEqDiff, Nat.reduceSub, Nat.reduceMul, reduceCtorEq, encIt, hmx, hlx]
      refine altL ?_
      simp (config := {maxSteps := 2000000, implicitDefEqProofs := false}) (disch := omega) only [↓reduceIte, go_sem, Int.reduceToNat, Nat.reduceAdd, Nat.reduceLeDiff, Nat.reduceEqDiff, Nat.reduceSub, Nat.reduceMul, reduceCtorEq, encIt, hmx, hlx]
      refine callO (C12 (w + 1) x' (by omega) (by omega)) ?_
      rintro r o ⟨rfl, rfl⟩
      simp (config := {maxSteps := 2000000, implicitDefEqProofs := false}) (disch := omega) only [↓reduceIte, go_sem, Int.reduceToNat, Nat.reduceAdd, Nat.reduceLeDiff, Nat.reduceEqDiff, Nat.reduceSub, Nat.reduceMul, reduceCtorEq, encIt, hb', eqIt, hmx, hlx]
      refine callL (C17 p') ?_
      simp (config := {maxSteps := 2000000, implicitDefEqProofs := false}) (disch := omega) only [↓reduceIte, go_sem, Int.reduceToNat, Nat.reduceAdd, Nat.reduceLeDiff, Nat.reduceEqDiff, Nat.reduceSub, Nat.reduceMul, reduceCtorEq, hl', hmx, hlx]
      exact ⟨(k + 1, v', p', junk', (w + 1), x'), by simp [hl'], ⟨by simp only; omega, hs', by simp only; omega⟩, by simp only; omega⟩
    simp (config := {maxSteps := 2000000, implicitDefEqProofs := false}) (disch := omega) only [↓reduceIte, go_sem, Int.reduceToNat, Nat.reduceAdd, Nat.reduceLeDiff, Nat.reduceEqDiff, Nat.reduceSub, Nat.reduceMul, reduceCtorEq]
    refine ifE (fun h3 => ?_) (fun h3 => ?_)
    · simp (config := {maxSteps := 2000000, implicitDefEqProofs := false}) (disch := omega) only [↓reduceIte, go_sem, Int.reduceToNat, Nat.reduceAdd, Nat.reduceLeDiff, Nat.reduceEqDiff, Nat.reduceSub, Nat.reduceMul, reduceCtorEq]
      by_cases hz : p.length = 0
      · have e1 : p = [] := List.length_eq_zero_iff.1 hz
        have e2 : x = [] := List.length_eq_zero_iff.1 (by rw [hs.len]; exact hz)
        subst e1 e2
        have hs' := hs
        refine callD (C11e v junk) ?_
        simp (config := {maxSteps := 2000000, implicitDefEqProofs := false}) (disch := omega) only [↓reduceIte, go_sem, Int.reduceToNat, Nat.reduceAdd, Nat.reduceLeDiff, Nat.reduceEqDiff, Nat.reduceSub, Nat.reduceMul, reduceCtorEq, pileO, encIt]
        refine altR ?_
        simp (config := {maxSteps := 2000000, implicitDefEqProofs := false}) (disch := omega) only [↓reduceIte, go_sem, Int.reduceToNat, Nat.reduceAdd, Nat.reduceLeDiff, Nat.reduceEqDiff, Nat.reduceSub, Nat.reduceMul, reduceCtorEq]
        refine callO (C12e w) ?_
        rintro r o ⟨rfl, rfl⟩
        simp (config := {maxSteps := 2000000, implicitDefEqProofs := false}) (disch := omega) only [↓reduceIte, go_sem, Int.reduceToNat, Nat.reduceAdd, Nat.reduceLeDiff, Nat.reduceEqDiff, Nat.reduceSub, Nat.reduceMul, reduceCtorEq, pileO, encIt]
        refine altR ?_
        simp (config := {maxSteps := 2000000, implicitDefEqProofs := false}) (disch := omega) only [↓reduceIte, go_sem, Int.reduceToNat, Nat.reduceAdd, Nat.reduceLeDiff, Nat.reduceEqDiff, Nat.reduceSub, Nat.reduceMul, reduceCtorEq, pileO, encIt]
        refine callL C16e ?_
        simp (config := {maxSteps := 2000000, implicitDefEqProofs := false}) (disch := omega) only [↓reduceIte, go_sem, Int.reduceToNat, Nat.reduceAdd, Nat.reduceLeDiff, Nat.reduceEqDiff, Nat.reduceSub, Nat.reduceMul, reduceCtorEq, encIt]
        refine altR ?_
        simp (config := {maxSteps := 2000000, implicitDefEqProofs := false}) (disch := omega) only [↓reduceIte, go_sem, Int.reduceToNat, Nat.reduceAdd, Nat.reduceLeDiff, Nat.reduceEqDiff, Nat.reduceSub, Nat.reduceMul, reduceCtorEq]
        refine callO (C12e w) ?_
        rintro r o ⟨rfl, rfl⟩
        simp (config := {maxSteps := 2000000, implicitDefEqProofs := false}) (disch := omega) only [↓reduceIte, go_sem, Int.reduceToNat, Nat.reduceAdd, Nat.reduceLeDiff, Nat.reduceEqDiff, Nat.reduceSub, Nat.reduceMul, reduceCtorEq, encIt]
        refine callL (C17 []) ?_
        simp (config := {maxSteps := 2000000, implicitDefEqProofs := false}) (disch := omega) only [↓reduceIte, go_sem, Int.reduceToNat, Nat.reduceAdd, Nat.reduceLeDiff, Nat.reduceEqDiff, Nat.reduceSub, Nat.reduceMul, reduceCtorEq]
        exact ⟨(k + 1, v, [], junk, w, []), by simp, ⟨by simp only; omega, hs', by simp⟩, by simp only; omega⟩

      · have h0 : 0 < p.length := by omega
        have hb := hs.best h0
        have hs' := hs.rest h0
        have hl0 := rest_len (l := p)
        have hC : Ctr Try.prog 11 [.ref 0 0] [.box [.hs 1 v 0 p.length, .fn 19 []], .arr v 2 (p.map encIt ++ junk)] (retO [.agg (encIt p[0]!), .bool true] [.box [.hs 1 v 0 (rest p).length, .fn 19 []], .arr v 2 ((rest p).map encIt ++ (encIt p[0]! :: junk))]) := C11 v p junk h0 (by omega)
        have hC2 := C12 w x (by omega) (by omega)
        generalize rest p = p' at hs' hl0 hC
        generalize rst x = x' at hs' hC2
        generalize encIt p[0]! :: junk = junk' at hC
        refine callD hC ?_
        simp (config := {maxSteps := 2000000, implicitDefEqProofs := false}) (disch := omega) only [↓reduceIte, go_sem, Int.reduceToNat, Nat.reduceAdd, Nat.reduceLeDiff, Nat.reduceEqDiff, Nat.reduceSub, Nat.reduceMul, reduceCtorEq, encIt]
        refine altL ?_
        simp (config := {maxSteps := 2000000, implicitDefEqProofs := false}) (disch := omega) only [↓reduceIte, go_sem, Int.reduceToNat, Nat.reduceAdd, Nat.reduceLeDiff, Nat.reduceEqDiff, Nat.reduceSub, Nat.reduceMul, reduceCtorEq]
        refine callO hC2 ?_
        rintro r o ⟨rfl, rfl⟩
        simp (config := {maxSteps := 2000000, implicitDefEqProofs := false}) (disch := omega) only [↓reduceIte, go_sem, Int.reduceToNat, Nat.reduceAdd, Nat.reduceLeDiff, Nat.reduceEqDiff, Nat.reduceSub, Nat.reduceMul, reduceCtorEq, encIt, hb]
        refine altL ?_
        simp (config := {maxSteps := 2000000, implicitDefEqProofs := false}) (disch := omega) only [↓reduceIte, go_sem, Int.reduceToNat, Nat.reduceAdd, Nat.reduceLeDiff, Nat.reduceEqDiff, Nat.reduceSub, Nat.reduceMul, reduceCtorEq, encIt, hb]
        by_cases hz' : p'.length = 0
        · have e1 : p' = [] := List.length_eq_zero_iff.1 hz'
          have e2 : x' = [] := List.length_eq_zero_iff.1 (by rw [hs'.len]; exact hz')
          subst e1 e2
          refine callL C16e ?_
          simp (config := {maxSteps := 2000000, implicitDefEqProofs := false}) (disch := omega) only [↓reduceIte, go_sem, Int.reduceToNat, Nat.reduceAdd, Nat.reduceLeDiff, Nat.reduceEqDiff, Nat.reduceSub, Nat.reduceMul, reduceCtorEq, encIt]
          refine altR ?_
          simp (config := {maxSteps := 2000000, implicitDefEqProofs := false}) (disch := omega) only [↓reduceIte, go_sem, Int.reduceToNat, Nat.reduceAdd, Nat.reduceLeDiff, Nat.reduceEqDiff, Nat.reduceSub, Nat.reduceMul, reduceCtorEq]
          refine callO (C12e 2) ?_
          rintro r o ⟨rfl, rfl⟩
          simp (config := {maxSteps := 2000000, implicitDefEqProofs := false}) (disch := omega) only [↓reduceIte, go_sem, Int.reduceToNat, Nat.reduceAdd, Nat.reduceLeDiff, Nat.reduceEqDiff, Nat.reduceSub, Nat.reduceMul, reduceCtorEq, encIt]
          refine callL (C17 []) ?_
          simp (config := {maxSteps := 2000000, implicitDefEqProofs := false}) (disch := omega) only [↓reduceIte, go_sem, Int.reduceToNat, Nat.reduceAdd, Nat.reduceLeDiff, Nat.reduceEqDiff, Nat.reduceSub, Nat.reduceMul, reduceCtorEq]
          exact ⟨(k + 1, v, [], junk', 2, []), by simp, ⟨by simp only; omega, hs', by simp⟩, by simp only; omega⟩
        · have h0' : 0 < p'.length := by omega
          have hb' := hs'.best h0'
          have hl' := hs'.len
          refine callL (C16 p' h0') ?_
          simp (config := {maxSteps := 2000000, implicitDefEqProofs := false}) (disch := omega) only [↓reduceIte, go_sem, Int.reduceToNat, Nat.reduceAdd, Nat.reduceLeDiff, Nat.reduceEqDiff, Nat.reduceSub, Nat.reduceMul, reduceCtorEq, encIt]
          refine altL ?_
          simp (config := {maxSteps := 2000000, implicitDefEqProofs := false}) (disch := omega) only [↓reduceIte, go_sem, Int.reduceToNat, Nat.reduceAdd, Nat.reduceLeDiff, Nat.reduceEqDiff, Nat.reduceSub, Nat.reduceMul, reduceCtorEq]
          refine callO (C12 2 x' (by omega) (by omega)) ?_
          rintro r o ⟨rfl, rfl⟩
          simp (config := {maxSteps := 2000000, implicitDefEqProofs := false}) (disch := omega) only [↓reduceIte, go_sem, Int.reduceToNat, Nat.reduceAdd, Nat.reduceLeDiff, Nat.reduceEqDiff, Nat.reduceSub, Nat.reduceMul, reduceCtorEq, encIt, hb', eqIt]
          refine callL (C17 p') ?_
          simp (config := {maxSteps := 2000000, implicitDefEqProofs := false}) (disch := omega) only [↓reduceIte, go_sem, Int.reduceToNat, Nat.reduceAdd, Nat.reduceLeDiff, Nat.reduceEqDiff, Nat.reduceSub, Nat.reduceMul, reduceCtorEq, hl']
          exact ⟨(k + 1, v, p', junk', 2, x'), by simp [hl'], ⟨by simp only; omega, hs', by simp only; omega⟩, by simp only; omega⟩
    simp (config := {maxSteps := 2000000, implicitDefEqProofs := false}) (disch := omega) only [↓reduceIte, go_sem, Int.reduceToNat, Nat.reduceAdd, Nat.reduceLeDiff, Nat.reduceEqDiff, Nat.reduceSub, Nat.reduceMul, reduceCtorEq]
    refine ifE (fun h4 => ?_) (fun h4 => ?_)
    · simp (config := {maxSteps := 2000000, implicitDefEqProofs := false}) (disch := omega) only [↓reduceIte, go_sem, Int.reduceToNat, Nat.reduceAdd, Nat.reduceLeDiff, Nat.reduceEqDiff, Nat.reduceSub, Nat.reduceMul, reduceCtorEq, hd, encD]
      have hs' := hs.chg d.x.value d.x.key
      have hl0 : (heapify (p.map (chg d.x.value d.x.key))).length = p.length := by rw [heapify_len]; simp
      have hcn := hs.cnt d.x.value
      have hC : Ctr Try.prog 13 [.hs 0 w 0 x.length, .int .i64 d.x.value, .int .i64 d.x.key] [.arr w 2 (x.map encIt)] (retO [.hs 1 x.length 0 (x.map (chg d.x.value d.x.key)).length, .int .i64 (cnt d.x.value x)] [.arr w 2 (x.map encIt), .arr x.length 2 ((x.map (chg d.x.value d.x.key)).map encIt)]) := by
        rw [List.length_map]
        exact C13 w x d.x.value d.x.key (by omega)
      have hC2 : Ctr Try.prog 14 [.ref 0 0, .int .i64 d.x.value, .int .i64 d.x.key] [.box [.hs 1 v 0 p.length, .fn 19 []], .arr v 2 (p.map encIt ++ junk)] (retO [.int .i64 (cnt d.x.value p)] [.box [.hs 1 v 0 (heapify (p.map (chg d.x.value d.x.key))).length, .fn 19 []], .arr v 2 ((heapify (p.map (chg d.x.value d.x.key))).map encIt ++ junk)]) :=
        C14 v p junk d.x.value d.x.key (by omega)
      generalize heapify (p.map (chg d.x.value d.x.key)) = p' at hs' hl0 hC2
      generalize x.map (chg d.x.value d.x.key) = x' at hs' hC
      refine callD hC ?_
      simp (config := {maxSteps := 2000000, implicitDefEqProofs := false}) (disch := omega) only [↓reduceIte, go_sem, Int.reduceToNat, Nat.reduceAdd, Nat.reduceLeDiff, Nat.reduceEqDiff, Nat.reduceSub, Nat.reduceMul, reduceCtorEq]
      refine accL (by kernel_rfl) ?_
      simp (config := {maxSteps := 2000000, implicitDefEqProofs := false}) (disch := omega) only [↓reduceIte, go_sem, Int.reduceToNat, Nat.reduceAdd, Nat.reduceLeDiff, Nat.reduceEqDiff, Nat.reduceSub, Nat.reduceMul, reduceCtorEq, hd, encD]
      refine callD hC2 ?_
      simp (config := {maxSteps := 2000000, implicitDefEqProofs := false}) (disch := omega) only [↓reduceIte, go_sem, Int.reduceToNat, Nat.reduceAdd, Nat.reduceLeDiff, Nat.reduceEqDiff, Nat.reduceSub, Nat.reduceMul, reduceCtorEq, hcn]
      refine accL (by kernel_rfl) ?_
      simp (config := {maxSteps := 2000000, implicitDefEqProofs := false}) (disch := omega) only [↓reduceIte, go_sem, Int.reduceToNat, Nat.reduceAdd, Nat.reduceLeDiff, Nat.reduceEqDiff, Nat.reduceSub, Nat.reduceMul, reduceCtorEq, hcn]

      by_cases hz' : p'.length = 0
      · have e1 : p' = [] := List.length_eq_zero_iff.1 hz'
        have e2 : x' = [] := List.length_eq_zero_iff.1 (by rw [hs'.len]; exact hz')
        subst e1 e2
        refine callL C16e ?_
        simp (config := {maxSteps := 2000000, implicitDefEqProofs := false}) (disch := omega) only [↓reduceIte, go_sem, Int.reduceToNat, Nat.reduceAdd, Nat.reduceLeDiff, Nat.reduceEqDiff, Nat.reduceSub, Nat.reduceMul, reduceCtorEq, encIt]
        refine altR ?_
        simp (config := {maxSteps := 2000000, implicitDefEqProofs := false}) (disch := omega) only [↓reduceIte, go_sem, Int.reduceToNat, Nat.reduceAdd, Nat.reduceLeDiff, Nat.reduceEqDiff, Nat.reduceSub, Nat.reduceMul, reduceCtorEq]
        refine callO (C12e x.length) ?_
        rintro r o ⟨rfl, rfl⟩
        simp (config := {maxSteps := 2000000, implicitDefEqProofs := false}) (disch := omega) only [↓reduceIte, go_sem, Int.reduceToNat, Nat.reduceAdd, Nat.reduceLeDiff, Nat.reduceEqDiff, Nat.reduceSub, Nat.reduceMul, reduceCtorEq, encIt]
        refine callL (C17 []) ?_
        simp (config := {maxSteps := 2000000, implicitDefEqProofs := false}) (disch := omega) only [↓reduceIte, go_sem, Int.reduceToNat, Nat.reduceAdd, Nat.reduceLeDiff, Nat.reduceEqDiff, Nat.reduceSub, Nat.reduceMul, reduceCtorEq]
        exact ⟨(k + 1, v, [], junk, x.length, []), by simp, ⟨by simp only; omega, hs', by simp⟩, by simp only; omega⟩
      · have h0' : 0 < p'.length := by omega
        have hb' := hs'.best h0'
        have hl' := hs'.len
        refine callL (C16 p' h0') ?_
        simp (config := {maxSteps := 2000000, implicitDefEqProofs := false}) (disch := omega) only [↓reduceIte, go_sem, Int.reduceToNat, Nat.reduceAdd, Nat.reduceLeDiff, Nat.reduceEqDiff, Nat.reduceSub, Nat.reduceMul, reduceCtorEq, encIt]
        refine altL ?_
        simp (config := {maxSteps := 2000000, implicitDefEqProofs := false}) (disch := omega) only [↓reduceIte, go_sem, Int.reduceToNat, Nat.reduceAdd, Nat.reduceLeDiff, Nat.reduceEqDiff, Nat.reduceSub, Nat.reduceMul, reduceCtorEq]
        refine callO (C12 x.length x' (by omega) (by omega)) ?_
        rintro r o ⟨rfl, rfl⟩
        simp (config := {maxSteps := 2000000, implicitDefEqProofs := false}) (disch := omega) only [↓reduceIte, go_sem, Int.reduceToNat, Nat.reduceAdd, Nat.reduceLeDiff, Nat.reduceEqDiff, Nat.reduceSub, Nat.reduceMul, reduceCtorEq, encIt, hb', eqIt]
        refine callL (C17 p') ?_
        simp (config := {maxSteps := 2000000, implicitDefEqProofs := false}) (disch := omega) only [↓reduceIte, go_sem, Int.reduceToNat, Nat.reduceAdd, Nat.reduceLeDiff, Nat.reduceEqDiff, Nat.reduceSub, Nat.reduceMul, reduceCtorEq, hl']
        exact ⟨(k + 1, v, p', junk, x.length, x'), by simp [hl'], ⟨by simp only; omega, hs', by simp only; omega⟩, by simp only; omega⟩
    simp (config := {maxSteps := 2000000, implicitDefEqProofs := false}) (disch := omega) only [↓reduceIte, go_sem, Int.reduceToNat, Nat.reduceAdd, Nat.reduceLeDiff, Nat.reduceEqDiff, Nat.reduceSub, Nat.reduceMul, reduceCtorEq]
    refine ifE (fun h5 => ?_) (fun h5 => ?_)
    · simp (config := {maxSteps := 2000000, implicitDefEqProofs := false}) (disch := omega) only [↓reduceIte, go_sem, Int.reduceToNat, Nat.reduceAdd, Nat.reduceLeDiff, Nat.reduceEqDiff, Nat.reduceSub, Nat.reduceMul, reduceCtorEq, hd, encD]
      have hdl := drainF_len d.n.toNat p junk
      have hdr := hs.drain d.n.toNat junk
      by_cases hno : d.n ≤ 0 ∨ x = []
      · have hs' := hs
        have e0 : drainF d.n.toNat p junk = ([], p, junk) := by
          rcases hno with h | h
          · rw [show d.n.toNat = 0 by omega]
            rfl
          · have hp0 : p.length = 0 := by rw [← hs.len, h]; rfl
            cases d.n.toNat <;> simp [drainF, hp0]
        have hC : Ctr Try.prog 8 [.ref 0 0, .int .i64 d.n] [.box [.hs 1 v 0 p.length, .fn 19 []], .arr v 2 (p.map encIt ++ junk)] (retO [.sl []] [.box [.hs 1 v 0 p.length, .fn 19 []], .arr v 2 (p.map encIt ++ junk)]) := by
          have h := C8 v p junk d.n (by omega)
          rw [e0] at h
          exact h
        refine callD hC ?_
        simp (config := {maxSteps := 2000000, implicitDefEqProofs := false}) (disch := omega) only [↓reduceIte, go_sem, Int.reduceToNat, Nat.reduceAdd, Nat.reduceLeDiff, Nat.reduceEqDiff, Nat.reduceSub, Nat.reduceMul, reduceCtorEq, hd, encD]
        refine altR ?_
        simp (config := {maxSteps := 2000000, implicitDefEqProofs := false}) (disch := omega) only [↓reduceIte, go_sem, Int.reduceToNat, Nat.reduceAdd, Nat.reduceLeDiff, Nat.reduceEqDiff, Nat.reduceSub, Nat.reduceMul, reduceCtorEq, hd, encD]
        refine callO (C15n w x d.n hno) ?_
        rintro r o ⟨rfl, rfl⟩
        simp (config := {maxSteps := 2000000, implicitDefEqProofs := false}) (disch := omega) only [↓reduceIte, go_sem, Int.reduceToNat, Nat.reduceAdd, Nat.reduceLeDiff, Nat.reduceEqDiff, Nat.reduceSub, Nat.reduceMul, reduceCtorEq]
        refine altR ?_
        simp (config := {maxSteps := 2000000, implicitDefEqProofs := false}) (disch := omega) only [↓reduceIte, go_sem, Int.reduceToNat, Nat.reduceAdd, Nat.reduceLeDiff, Nat.reduceEqDiff, Nat.reduceSub, Nat.reduceMul, reduceCtorEq]
        refine callL (C9 [] [] (by decide)) ?_
        simp (config := {maxSteps := 2000000, implicitDefEqProofs := false}) (disch := omega) only [↓reduceIte, go_sem, Int.reduceToNat, Nat.reduceAdd, Nat.reduceLeDiff, Nat.reduceEqDiff, Nat.reduceSub, Nat.reduceMul, reduceCtorEq]
        by_cases hz' : p.length = 0
        · have e1 : p = [] := List.length_eq_zero_iff.1 hz'
          have e2 : x = [] := List.length_eq_zero_iff.1 (by rw [hs'.len]; exact hz')
          subst e1 e2
          refine callL C16e ?_
          simp (config := {maxSteps := 2000000, implicitDefEqProofs := false}) (disch := omega) only [↓reduceIte, go_sem, Int.reduceToNat, Nat.reduceAdd, Nat.reduceLeDiff, Nat.reduceEqDiff, Nat.reduceSub, Nat.reduceMul, reduceCtorEq, encIt]
          refine altR ?_
          simp (config := {maxSteps := 2000000, implicitDefEqProofs := false}) (disch := omega) only [↓reduceIte, go_sem, Int.reduceToNat, Nat.reduceAdd, Nat.reduceLeDiff, Nat.reduceEqDiff, Nat.reduceSub, Nat.reduceMul, reduceCtorEq]
          refine callO (C12e w) ?_
          rintro r o ⟨rfl, rfl⟩
          simp (config := {maxSteps := 2000000, implicitDefEqProofs := false}) (disch := omega) only [↓reduceIte, go_sem, Int.reduceToNat, Nat.reduceAdd, Nat.reduceLeDiff, Nat.reduceEqDiff, Nat.reduceSub, Nat.reduceMul, reduceCtorEq, encIt]
          refine callL (C17 []) ?_
          simp (config := {maxSteps := 2000000, implicitDefEqProofs := false}) (disch := omega) only [↓reduceIte, go_sem, Int.reduceToNat, Nat.reduceAdd, Nat.reduceLeDiff, Nat.reduceEqDiff, Nat.reduceSub, Nat.reduceMul, reduceCtorEq]
          exact ⟨(k + 1, v, [], junk, w, []), by simp, ⟨by simp only; omega, hs', by simp⟩, by simp only; omega⟩
        · have h0' : 0 < p.length := by omega
          have hb' := hs'.best h0'
          have hl' := hs'.len
          refine callL (C16 p h0') ?_
          simp (config := {maxSteps := 2000000, implicitDefEqProofs := false}) (disch := omega) only [↓reduceIte, go_sem, Int.reduceToNat, Nat.reduceAdd, Nat.reduceLeDiff, Nat.reduceEqDiff, Nat.reduceSub, Nat.reduceMul, reduceCtorEq, encIt]
          refine altL ?_
          simp (config := {maxSteps := 2000000, implicitDefEqProofs := false}) (disch := omega) only [↓reduceIte, go_sem, Int.reduceToNat, Nat.reduceAdd, Nat.reduceLeDiff, Nat.reduceEqDiff, Nat.reduceSub, Nat.reduceMul, reduceCtorEq]
          refine callO (C12 w x (by omega) (by omega)) ?_
          rintro r o ⟨rfl, rfl⟩
          simp (config := {maxSteps := 2000000, implicitDefEqProofs := false}) (disch := omega) only [↓reduceIte, go_sem, Int.reduceToNat, Nat.reduceAdd, Nat.reduceLeDiff, Nat.reduceEqDiff, Nat.reduceSub, Nat.reduceMul, reduceCtorEq, encIt, hb', eqIt]
          refine callL (C17 p) ?_
          simp (config := {maxSteps := 2000000, implicitDefEqProofs := false}) (disch := omega) only [↓reduceIte, go_sem, Int.reduceToNat, Nat.reduceAdd, Nat.reduceLeDiff, Nat.reduceEqDiff, Nat.reduceSub, Nat.reduceMul, reduceCtorEq, hl']
          exact ⟨(k + 1, v, p, junk, w, x), by simp [hl'], ⟨by simp only; omega, hs', by simp only; omega⟩, by simp only; omega⟩

      · have hn0 : 0 < d.n := by omega
        have hx0 : 0 < x.length := by
          rcases Nat.eq_zero_or_pos x.length with h | h
          · exact absurd (.inr (List.length_eq_zero_iff.1 h)) hno
          · exact h
        have hC : Ctr Try.prog 8 [.ref 0 0, .int .i64 d.n] [.box [.hs 1 v 0 p.length, .fn 19 []], .arr v 2 (p.map encIt ++ junk)] _ := C8 v p junk d.n (by omega)
        have hC2 := C15 w x d.n hn0 hx0 (by omega)
        simp only [pileO] at hC
        rw [hdr.1] at hC hdl
        have hs' := hdr.2
        generalize (rdrain d.n.toNat x).1 = D at hC hC2 hdl
        generalize (rdrain d.n.toNat x).2 = x' at hC2 hs'
        generalize (drainF d.n.toNat p junk).2.1 = p' at hC hdl hs'
        generalize (drainF d.n.toNat p junk).2.2 = junk' at hC
        refine callD hC ?_
        simp (config := {maxSteps := 2000000, implicitDefEqProofs := false}) (disch := omega) only [↓reduceIte, go_sem, Int.reduceToNat, Nat.reduceAdd, Nat.reduceLeDiff, Nat.reduceEqDiff, Nat.reduceSub, Nat.reduceMul, reduceCtorEq, hd, encD]
        refine altL ?_
        simp (config := {maxSteps := 2000000, implicitDefEqProofs := false}) (disch := omega) only [↓reduceIte, go_sem, Int.reduceToNat, Nat.reduceAdd, Nat.reduceLeDiff, Nat.reduceEqDiff, Nat.reduceSub, Nat.reduceMul, reduceCtorEq, hd, encD]
        refine callO hC2 ?_
        rintro r o ⟨rfl, rfl⟩
        simp (config := {maxSteps := 2000000, implicitDefEqProofs := false}) (disch := omega) only [↓reduceIte, go_sem, Int.reduceToNat, Nat.reduceAdd, Nat.reduceLeDiff, Nat.reduceEqDiff, Nat.reduceSub, Nat.reduceMul, reduceCtorEq]
        refine altL ?_
        simp (config := {maxSteps := 2000000, implicitDefEqProofs := false}) (disch := omega) only [↓reduceIte, go_sem, Int.reduceToNat, Nat.reduceAdd, Nat.reduceLeDiff, Nat.reduceEqDiff, Nat.reduceSub, Nat.reduceMul, reduceCtorEq]
        refine callL (C9 D D (by omega)) ?_
        simp (config := {maxSteps := 2000000, implicitDefEqProofs := false}) (disch := omega) only [↓reduceIte, go_sem, Int.reduceToNat, Nat.reduceAdd, Nat.reduceLeDiff, Nat.reduceEqDiff, Nat.reduceSub, Nat.reduceMul, reduceCtorEq]
        by_cases hz' : p'.length = 0
        · have e1 : p' = [] := List.length_eq_zero_iff.1 hz'
          have e2 : x' = [] := List.length_eq_zero_iff.1 (by rw [hs'.len]; exact hz')
          subst e1 e2
          refine callL C16e ?_
          simp (config := {maxSteps := 2000000, implicitDefEqProofs := false}) (disch := omega) only [↓reduceIte, go_sem, Int.reduceToNat, Nat.reduceAdd, Nat.reduceLeDiff, Nat.reduceEqDiff, Nat.reduceSub, Nat.reduceMul, reduceCtorEq, encIt]
          refine altR ?_
          simp (config := {maxSteps := 2000000, implicitDefEqProofs := false}) (disch := omega) only [↓reduceIte, go_sem, Int.reduceToNat, Nat.reduceAdd, Nat.reduceLeDiff, Nat.reduceEqDiff, Nat.reduceSub, Nat.reduceMul, reduceCtorEq]
          refine callO (C12e 2) ?_
          rintro r o ⟨rfl, rfl⟩
          simp (config := {maxSteps := 2000000, implicitDefEqProofs := false}) (disch := omega) only [↓reduceIte, go_sem, Int.reduceToNat, Nat.reduceAdd, Nat.reduceLeDiff, Nat.reduceEqDiff, Nat.reduceSub, Nat.reduceMul, reduceCtorEq, encIt]
          refine callL (C17 []) ?_
          simp (config := {maxSteps := 2000000, implicitDefEqProofs := false}) (disch := omega) only [↓reduceIte, go_sem, Int.reduceToNat, Nat.reduceAdd, Nat.reduceLeDiff, Nat.reduceEqDiff, Nat.reduceSub, Nat.reduceMul, reduceCtorEq]
          exact ⟨(k + 1, v, [], junk', 2, []), by simp, ⟨by simp only; omega, hs', by simp⟩, by simp only; omega⟩
        · have h0' : 0 < p'.length := by omega
          have hb' := hs'.best h0'
          have hl' := hs'.len
          refine callL (C16 p' h0') ?_
          simp (config := {maxSteps := 2000000, implicitDefEqProofs := false}) (disch := omega) only [↓reduceIte, go_sem, Int.reduceToNat, Nat.reduceAdd, Nat.reduceLeDiff, Nat.reduceEqDiff, Nat.reduceSub, Nat.reduceMul, reduceCtorEq, encIt]
          refine altL ?_
          simp (config := {maxSteps := 2000000, implicitDefEqProofs := false}) (disch := omega) only [↓reduceIte, go_sem, Int.reduceToNat, Nat.reduceAdd, Nat.reduceLeDiff, Nat.reduceEqDiff, Nat.reduceSub, Nat.reduceMul, reduceCtorEq]
          refine callO (C12 2 x' (by omega) (by omega)) ?_
          rintro r o ⟨rfl, rfl⟩
          simp (config := {maxSteps := 2000000, implicitDefEqProofs := false}) (disch := omega) only [↓reduceIte, go_sem, Int.reduceToNat, Nat.reduceAdd, Nat.reduceLeDiff, Nat.reduceEqDiff, Nat.reduceSub, Nat.reduceMul, reduceCtorEq, encIt, hb', eqIt]
          refine callL (C17 p') ?_
          simp (config := {maxSteps := 2000000, implicitDefEqProofs := false}) (disch := omega) only [↓reduceIte, go_sem, Int.reduceToNat, Nat.reduceAdd, Nat.reduceLeDiff, Nat.reduceEqDiff, Nat.reduceSub, Nat.reduceMul, reduceCtorEq, hl']
          exact ⟨(k + 1, v, p', junk', 2, x'), by simp [hl'], ⟨by simp only; omega, hs', by simp only; omega⟩, by simp only; omega⟩
    have hs' := hs
    simp (config := {maxSteps := 2000000, implicitDefEqProofs := false}) (disch := omega) only [↓reduceIte, go_sem, Int.reduceToNat, Nat.reduceAdd, Nat.reduceLeDiff, Nat.reduceEqDiff, Nat.reduceSub, Nat.reduceMul, reduceCtorEq]
    by_cases hz' : p.length = 0
    · have e1 : p = [] := List.length_eq_zero_iff.1 hz'
      have e2 : x = [] := List.length_eq_zero_iff.1 (by rw [hs'.len]; exact hz')
      subst e1 e2
      refine callL C16e ?_
      simp (config := {maxSteps := 2000000, implicitDefEqProofs := false}) (disch := omega) only [↓reduceIte, go_sem, Int.reduceToNat, Nat.reduceAdd, Nat.reduceLeDiff, Nat.reduceEqDiff, Nat.reduceSub, Nat.reduceMul, reduceCtorEq, encIt]
      refine altR ?_
      simp (config := {maxSteps := 2000000, implicitDefEqProofs := false}) (disch := omega) only [↓reduceIte, go_sem, Int.reduceToNat, Nat.reduceAdd, Nat.reduceLeDiff, Nat.reduceEqDiff, Nat.reduceSub, Nat.reduceMul, reduceCtorEq]
      refine callO (C12e w) ?_
      rintro r o ⟨rfl, rfl⟩
      simp (config := {maxSteps := 2000000, implicitDefEqProofs := false}) (disch := omega) only [↓reduceIte, go_sem, Int.reduceToNat, Nat.reduceAdd, Nat.reduceLeDiff, Nat.reduceEqDiff, Nat.reduceSub, Nat.reduceMul, reduceCtorEq, encIt]
      refine callL (C17 []) ?_
      simp (config := {maxSteps := 2000000, implicitDefEqProofs := false}) (disch := omega) only [↓reduceIte, go_sem, Int.reduceToNat, Nat.reduceAdd, Nat.reduceLeDiff, Nat.reduceEqDiff, Nat.reduceSub, Nat.reduceMul, reduceCtorEq]
      exact ⟨(k + 1, v, [], junk, w, []), by simp, ⟨by simp only; omega, hs', by simp⟩, by simp only; omega⟩
    · have h0' : 0 < p.length := by omega
      have hb' := hs'.best h0'
      have hl' := hs'.len
      refine callL (C16 p h0') ?_
      simp (config := {maxSteps := 2000000, implicitDefEqProofs := false}) (disch := omega) only [↓reduceIte, go_sem, Int.reduceToNat, Nat.reduceAdd, Nat.reduceLeDiff, Nat.reduceEqDiff, Nat.reduceSub, Nat.reduceMul, reduceCtorEq, encIt]
      refine altL ?_
      simp (config := {maxSteps := 2000000, implicitDefEqProofs := false}) (disch := omega) only [↓reduceIte, go_sem, Int.reduceToNat, Nat.reduceAdd, Nat.reduceLeDiff, Nat.reduceEqDiff, Nat.reduceSub, Nat.reduceMul, reduceCtorEq]
      refine callO (C12 w x (by omega) (by omega)) ?_
      rintro r o ⟨rfl, rfl⟩
      simp (config := {maxSteps := 2000000, implicitDefEqProofs := false}) (disch := omega) only [↓reduceIte, go_sem, Int.reduceToNat, Nat.reduceAdd, Nat.reduceLeDiff, Nat.reduceEqDiff, Nat.reduceSub, Nat.reduceMul, reduceCtorEq, encIt, hb', eqIt]
      refine callL (C17 p) ?_
      simp (config := {maxSteps := 2000000, implicitDefEqProofs := false}) (disch := omega) only [↓reduceIte, go_sem, Int.reduceToNat, Nat.reduceAdd, Nat.reduceLeDiff, Nat.reduceEqDiff, Nat.reduceSub, Nat.reduceMul, reduceCtorEq, hl']
      exact ⟨(k + 1, v, p, junk, w, x), by simp [hl'], ⟨by simp only; omega, hs', by simp only; omega⟩, by simp only; omega⟩
  · simp (config := {maxSteps := 2000000, implicitDefEqProofs := false}) (disch := omega) only [↓reduceIte, go_sem, Int.reduceToNat, Nat.reduceAdd, Nat.reduceLeDiff, Nat.reduceEqDiff, Nat.reduceSub, Nat.reduceMul, reduceCtorEq]
    refine callL C6 ?_
    simp (config := {maxSteps := 2000000, implicitDefEqProofs := false}) (disch := omega) only [↓reduceIte, go_sem, Int.reduceToNat, Nat.reduceAdd, Nat.reduceLeDiff, Nat.reduceEqDiff, Nat.reduceSub, Nat.reduceMul, reduceCtorEq]
    exact ⟨rfl, rfl⟩
end Go.Proofs.Ytmmgdilhbkklpaa.X
