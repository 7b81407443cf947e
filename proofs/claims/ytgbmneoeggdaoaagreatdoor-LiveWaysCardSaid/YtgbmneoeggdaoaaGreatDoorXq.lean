/- The law LiveWays, walked. -/
import Derived.Test.YtgbmneoeggdaoaaGreatDoorXj
import Derived.Test.YtgbmneoeggdaoaaGreatDoorXe
namespace Go.Proofs.YtgbmneoeggdaoaaGreatDoor.X
open Go Go.AM Go.Proofs
open Nat (reduceAdd reduceLeDiff reduceEqDiff reduceSub reduceMul)
open Int (reduceToNat)
attribute [local go_sem ↓] w_skip w_lbl w_ops w_draw w_pre w_post w_alt w_seq w_cond w_block w_join w_loop w_exit w_ret w_scope w_rfunc l_nil l_cons th_n th_e th_r bk_n bk_r bk_e t_nil t_it t_call t_callg i_nil i_one i_grp s_nil s_cons c_call c_callg e_rar e_dynB e_mv e_nil e_dyn e_nilb e_frz o_mov o_bin o_eq o_un o_conv o_len o_slen o_idx o_aix o_fad o_load o_store o_boxp o_boxo o_boxm o_alloc o_allocm o_alloca o_nilarr o_build o_bslp o_bslo o_slc o_sslc o_slc3 o_sidx o_mkfn o_mkmv o_calle o_bslr o_ridx o_rload o_rapp o_vidx o_ext o_pick o_callf o_callb o_appd o_clear o_mxn o_field o_nilc o_make o_makeb o_buildm o_boxg o_mkif o_tass o_eqs o_callo o_callx k_int k_str k_bool k_grb k_grt k_some k_none k_rar k_arr k_lens k_lenf k_lenh k_lenb k_idxb k_idxs k_idxf k_idxh k_ld k_loadp k_loadr k_loade k_storer k_storee k_oin k_ois k_slcs k_slcf k_slch k_slc3s k_slc3f k_slc3h k_app2 k_apps k_appf k_apph k_cals k_cald k_cali k_cnb k_cna k_esn k_esc k_efn k_efc k_esh b_add b_sub b_mul b_quo b_rem b_and b_or b_xor b_andNot b_eql b_neq b_lss b_leq b_gtr b_geq b_shl b_shr b_seq b_sne b_slt b_sad q_bool q_str q_nil q_nilf u_not u_neg u_xor f_ret f_nor v_r v_c v_g v_reg v_ob v_set v_put v_so v_sn v_pn v_pc g_nil d_nil p_nil m_mv m_fr z_nil z_cons z_an z_ac g_cons d_cons p_cons y_mov y_bin y_eq y_un y_conv y_len y_slen y_idx y_aix y_fad y_load y_store y_boxp y_boxo y_boxm y_alloc y_alloca y_allocm y_nilarr y_build y_bslp y_bslo y_slc y_sslc y_slc3 y_sidx y_mkfn y_ext y_pick y_callf y_callb y_appd y_clear y_mxn y_field y_nilc y_make y_makeb y_buildm y_boxg y_mkif y_tass y_eqs y_callo y_mkmv y_callx y_vidx y_bslr y_ridx y_rload y_rapp y_calle nb_if
attribute [local go_sem] nbd VL_mk VL2_mk If_t If_f If_not If_and If_or If_dt If_df If_et If_ef If_ne Ck_t Ck_h Opt_s ld_a ld_c lm_a lm_c renL ren keepR renA idxM invL getObs mapOb renOb allNone putAll fzR fzO fz fzL fzOb fzB frzOk upFrom mapR resOne resA cellsOf oneA oneAL isP isPL okSt kRows kParts fillA setAt bor bor0 bor1 bor2 borC borI key0 key1 key2 keysA fillM cellsM cellM unif ptrA ifOk kPartsM getObsM allNoneM zipU scal0 scalar eqC evNil evNilF memK keyX hideM xbor scal1 scalX scalOb bndA mkMag showM lendV hideV hideR hideOb hideL hideO showL backO noneO mapA List.map_cons List.map_nil List.cons_append List.nil_append List.append_nil List.drop_zero List.drop_succ_cons List.drop_nil List.take_succ_cons List.take_zero List.take_nil List.length_cons List.length_nil List.length_map List.getElem?_map Option.map_some Option.map_none Int.toNat_natCast Int.toNat_zero Int.toNat_one Int.natCast_nonneg List.flatMap_cons List.flatMap_nil List.all_cons List.all_nil List.any_cons List.any_nil Bool.or_false Bool.false_or Bool.or_true Bool.true_or Bool.and_true Bool.true_and Bool.and_false Bool.false_and Bool.not_true Bool.not_false beq_self_eq_true nb_self all_nil List.forall_mem_cons tk_map tk_app bs_self bs_dec bq_t bq_f Bool.not_not decide_true decide_false Bool.not_not and_self and_true true_and eq_self List.reverse_cons List.reverse_nil List.getElem?_cons_zero List.getElem?_cons_succ cond_true cond_false List.set_cons_zero List.set_cons_succ Nat.zero_add Nat.add_zero if_true if_false ite_true ite_false implies_true wrap64 wrap8
open Go.Bits
set_option linter.unusedVariables false
set_option linter.unusedSimpArgs false
set_option maxRecDepth 10000
/-- A way through a function: its instructions, one behind the other. -/
def ValP (f : Fnc) (p : Nat × Nat) : Prop := ∃ B, f.blocks[p.1]? = some B ∧ p.2 < B.code.length
def AdjP (f : Fnc) (p q : Nat × Nat) : Prop := (p.1 = q.1 ∧ q.2 = p.2 + 1) ∨ (q.2 = 0 ∧ ∃ B, f.blocks[p.1]? = some B ∧ p.2 + 1 = B.code.length ∧ q.1 ∈ rowAt (succF f.blocks) p.1)
structure WayP (f : Fnc) (l : List (Nat × Nat)) : Prop where
 val : ∀ p ∈ l, ValP f p
 adj : ∀ (k : Nat) p q, l[k]? = some p → l[k + 1]? = some q → AdjP f p q
def LinkP (f : Fnc) (l : List (Nat × Nat)) (q : Nat × Nat) : Prop := ∀ p, l.getLast? = some p → AdjP f p q
theorem makeP_code {d : Drf} (hc : ∀ b ∈ d.blocks, b.code.length ≤ 60) : ∀ b ∈ (makeP d).blocks, b.code.length ≤ 200 := by
 intro b hb
 simp only [makeP] at hb
 obtain ⟨i, _, rfl⟩ := List.mem_map.1 hb
 have hq : (d.blocks.getD i noDB).code.length ≤ 60 := by
  by_cases hh : i < d.blocks.length
  ·rw [show d.blocks.getD i noDB = d.blocks[i] by simp [List.getD_eq_getElem?_getD, hh]]
   exact hc _ (List.getElem_mem hh)
  ·rw [show d.blocks.getD i noDB = noDB by simp [List.getD_eq_getElem?_getD, show d.blocks.length ≤ i by omega]]
   simp [noDB]
 have hs := startTo_len (d := d) (n := (regP d 12).length)
 have hr := regP_len (d := d)
 simp only [blkP, List.length_append, codeP_len, List.length_cons, List.length_nil]
 split
 ·omega
 ·simp only [List.length_nil]; omega
theorem WayP.snoc {f : Fnc} {l : List (Nat × Nat)} (h : WayP f l) {q : Nat × Nat} (hq : ValP f q) (hl : LinkP f l q) : WayP f (l ++ [q]) := by
 refine ⟨fun p hp => ?_, fun k p r hk hk1 => ?_⟩
 ·rcases List.mem_append.1 hp with hp | hp
  ·exact h.val p hp
  ·rw [List.mem_singleton.1 hp]; exact hq
 ·have hlen := (List.getElem?_eq_some_iff.1 hk1).1
  rw [List.length_append, List.length_singleton] at hlen
  by_cases c : k + 1 < l.length
  ·rw [List.getElem?_append_left (by omega)] at hk
   rw [List.getElem?_append_left c] at hk1
   exact h.adj k p r hk hk1
  ·rw [List.getElem?_append_left (by omega)] at hk
   rw [List.getElem?_append_right (by omega), show k + 1 - l.length = 0 by omega] at hk1
   have e : q = r := by simpa using hk1
   rw [← e]
   refine hl p ?_
   rw [List.getLast?_eq_getElem?, show l.length - 1 = k by omega]
   exact hk
theorem getLast_snoc {α : Type} {l : List α} {q p : α} (h : (l ++ [q]).getLast? = some p) : p = q := by
 rw [List.getLast?_append] at h
 simpa using h.symm
def insP (f : Fnc) (p : Nat × Nat) : Ins := insAtF f p.1 p.2
/-- Wanted behind an instruction that does not give to it: wanted ahead of it. -/
theorem wnt_back {f : Fnc} (h : MkOk f) {p q : Nat × Nat} {v : Int} (hp : ValP f p) (ha : AdjP f p q) (hg : givesX (insP f p) v = false) (hw : Wnt f (succF f.blocks) v q.1 q.2) : Wnt f (succF f.blocks) v p.1 p.2 := by
 obtain ⟨b, i⟩ := p
 obtain ⟨b', i'⟩ := q
 have ⟨B, hB, hi⟩ := hp
 have hB : f.blocks[b]? = some B := hB
 have hi : i < B.code.length := hi
 have ⟨_, hd⟩ := insAt_get hB hi
 have hg : givesX (insAtF f b i) v = false := hg
 rcases ha with ⟨e1, e2⟩ | ⟨e1, B', hB', e2, hs⟩
 ·have e1 : b = b' := e1
  have e2 : i' = i + 1 := e2
  subst e1 e2
  by_cases ht : takesX (insAtF f b i) v = true
  ·exact .loc (by rw [blkAt_get hB, hd, scanL, if_pos ht])
  ·have hsc : scanL v ((blkAt f b).code.drop i) = scanL v ((blkAt f b).code.drop (i + 1)) := by
    rw [blkAt_get hB, hd, scanL, if_neg ht, if_neg (by rw [hg]; decide)]
   cases hw with
   | loc e => exact .loc (hsc.trans e)
   | go e hs hw => exact .go (hsc.trans e) hs hw
 ·have e1 : i' = 0 := e1
  subst e1
  have hB' : f.blocks[b]? = some B' := hB'
  rw [hB] at hB'
  cases hB'
  have e2 : i + 1 = B.code.length := e2
  have := (last_wnt h hB (s := b') hs hw).1
  rw [show B.code.length - 1 = i by omega] at this
  exact this
def ahdP (f : Fnc) (p : Nat × Nat) : List Int := presL f (idsU f) ((lastL f).map (·.2)) (2 * ((sumTo f.blocks p.1 + p.2 : Nat) : Int))
theorem ahead_iff {f : Fnc} (h : MkOk f) {p : Nat × Nat} (hp : ValP f p) {v : Int} : v ∈ ahdP f p ↔ knownF f v = true ∧ Wnt f (succF f.blocks) v p.1 p.2 := by
 have ⟨B, hB, hi⟩ := hp
 have hb := (List.getElem?_eq_some_iff.1 hB).1
 have hat : PtAt f.blocks (2 * ((sumTo f.blocks p.1 + p.2 : Nat) : Int)) p.1 p.2 false := ⟨B, hB, hi, by simp, fun e => by cases e⟩
 unfold ahdP
 rw [mem_pres h.new, presB_at hat, if_neg (by decide), want_iff h.new.inn hb]
theorem uses_ahead {f : Fnc} (h : MkOk f) {p : Nat × Nat} (hp : ValP f p) {u : Int} (hu : u ∈ usesX (insP f p)) : u ∈ ahdP f p := by
 have ⟨B, hB, hi⟩ := hp
 exact uses_pres h hB hi hu
theorem back_ahead {f : Fnc} (h : MkOk f) {l : List (Nat × Nat)} (hl : WayP f l) {k : Nat} {p q : Nat × Nat} {u : Int} (hk : l[k]? = some p) (hk1 : l[k + 1]? = some q) (hu : u ∈ ahdP f q) (hg : givesX (insP f p) u = false) : u ∈ ahdP f p := by
 have hvp := hl.val p (List.mem_of_getElem? hk)
 have hvq := hl.val q (List.mem_of_getElem? hk1)
 have ⟨h1, h2⟩ := (ahead_iff h hvq).1 hu
 exact (ahead_iff h hvp).2 ⟨h1, wnt_back h hvp (hl.adj k p q hk hk1) hg h2⟩
set_option maxHeartbeats 8000000 in
theorem C4 (d : Drf) (hd : d.Ok) (hB : d.blocks.length ≤ 140737488355328) (hC : ∀ b ∈ d.blocks, b.code.length ≤ 140737488355328) (tu : List Int) (htu : ∀ x ∈ tu, 0 ≤ x ∧ x < 256) : Ctr Tryz.prog 4 [.agg (encDr d), .sl (tu.map fun n => [.int .u8 n])] [] (ret [.bool true]) := by
 have hmn := manyC d hB hC
 apply ctr_b A4_ok rfl (Nat.le_of_ble_eq_true rfl)
 unfold A4
 simp only [initL, Nat.reduceAdd]
 simp -implicitDefEqProofs (disch := omega) only [↓reduceIte, go_sem, reduceToNat, reduceAdd, reduceLeDiff, reduceEqDiff, reduceSub, reduceMul, reduceCtorEq, encDr]
 refine callL hmn ?_
 simp -implicitDefEqProofs (disch := omega) only [↓reduceIte, go_sem, reduceToNat, reduceAdd, reduceLeDiff, reduceEqDiff, reduceSub, reduceMul, reduceCtorEq, encDr]
 refine ifB (fun e0 => ?_) (fun e0 => ?_)
 ·simp -implicitDefEqProofs (disch := omega) only [↓reduceIte, go_sem, reduceToNat, reduceAdd, reduceLeDiff, reduceEqDiff, reduceSub, reduceMul, reduceCtorEq]
  refine callL C6 ?_
  simp -implicitDefEqProofs (disch := omega) only [↓reduceIte, go_sem, reduceToNat, reduceAdd, reduceLeDiff, reduceEqDiff, reduceSub, reduceMul, reduceCtorEq]
  exact ⟨rfl, rfl⟩
 simp -implicitDefEqProofs (disch := omega) only [↓reduceIte, go_sem, reduceToNat, reduceAdd, reduceLeDiff, reduceEqDiff, reduceSub, reduceMul, reduceCtorEq]
 refine ifD (fun c1 => ?_) (fun c1 => ?_)
 ·simp -implicitDefEqProofs (disch := omega) only [↓reduceIte, go_sem, reduceToNat, reduceAdd, reduceLeDiff, reduceEqDiff, reduceSub, reduceMul, reduceCtorEq]
  refine callL C6 ?_
  simp -implicitDefEqProofs (disch := omega) only [↓reduceIte, go_sem, reduceToNat, reduceAdd, reduceLeDiff, reduceEqDiff, reduceSub, reduceMul, reduceCtorEq]
  exact ⟨rfl, rfl⟩
 have hno := many_no e0
 have hmk := C7 d hd hno.1 (fun b hb => by have := hno.2 b hb; omega)
 have hM := makeP_mk hno.1 (fun b hb => by have := hno.2 b hb; omega)
 have hcl := makeP_code hno.2
 generalize makeP d = f at hmk hM hcl
 have hN := hM.new
 have hO := LvOk.of hN
 have hnw := C8 f hN
 have hPr := fun p hp => C9 f (idsU f) ((lastL f).map (·.1)) ((lastL f).map (·.2)) p hO hp
 have hFi := fun l => C14 f l (by have := hN.pt.len; omega)
 have hFr := fun b hb => C17 f b (by have := hN.pt.len; omega) hb hN.pt.sum
 have hple := fun p => presL_le hO (p := p)
 have hul := hO.ul
 have hsum := hN.pt.sum
 have hbl := hN.pt.len
 have hnb := hM.nb
 have ⟨LV, eLV⟩ : ∃ LV, lvP f (idsU f) ((lastL f).map (·.1)) ((lastL f).map (·.2)) = .rp LV := ⟨_, rfl⟩
 rw [eLV] at hnw hPr
 unfold encDr at hmk
 unfold encFn at hmk hnw hFi hFr
 simp -implicitDefEqProofs (disch := omega) only [↓reduceIte, go_sem, reduceToNat, reduceAdd, reduceLeDiff, reduceEqDiff, reduceSub, reduceMul, reduceCtorEq]
 refine callL hmk ?_
 simp -implicitDefEqProofs (disch := omega) only [↓reduceIte, go_sem, reduceToNat, reduceAdd, reduceLeDiff, reduceEqDiff, reduceSub, reduceMul, reduceCtorEq]
 refine callL hnw ?_
 simp -implicitDefEqProofs (disch := omega) only [↓reduceIte, go_sem, reduceToNat, reduceAdd, reduceLeDiff, reduceEqDiff, reduceSub, reduceMul, reduceCtorEq]
 refine joinL (σ := List (Nat × Nat)) (fun l => ⟨[(7, .hs 7 l.length 0 l.length), (8, .hs 8 l.length 0 l.length)], [(7, .arr l.length 1 (l.map fun p => [.sl ((ahdP f p).map encN)])), (8, .arr l.length 10 (l.map fun p => encIn (insP f p)))]⟩) (fun l => WayP f l ∧ l.length < 1000000) ?_ ?_
 ·simp -implicitDefEqProofs (disch := omega) only [↓reduceIte, go_sem, reduceToNat, reduceAdd, reduceLeDiff, reduceEqDiff, reduceSub, reduceMul, reduceCtorEq]
  refine loopL (σ := Nat × Nat × List (Nat × Nat)) (fun s => ⟨[(1, .sl (tu.map fun n => [.int .u8 n])), (5, .rp [.bool f.machine, .str f.name, .sl (f.regs.map encRg), .sl (f.params.map encO), .sl (f.blocks.map encBk)]), (6, .rp LV), (7, .hs 7 s.2.2.length 0 s.2.2.length), (8, .hs 8 s.2.2.length 0 s.2.2.length), (9, .int .i64 (s.2.1 : Int)), (10, .int .i64 (s.1 : Int))], [(7, .arr s.2.2.length 1 (s.2.2.map fun p => [.sl ((ahdP f p).map encN)])), (8, .arr s.2.2.length 10 (s.2.2.map fun p => encIn (insP f p)))]⟩)
   (fun s => s.1 ≤ tu.length + 1 ∧ s.2.1 < f.blocks.length ∧ WayP f s.2.2 ∧ LinkP f s.2.2 (s.2.1, 0) ∧ s.2.2.length ≤ 200 * s.1) (fun s => tu.length + 1 - s.1) (0, 0, []) (by simp -implicitDefEqProofs (disch := omega) only [↓reduceIte, go_sem, reduceToNat, reduceAdd, reduceLeDiff, reduceEqDiff, reduceSub, reduceMul, reduceCtorEq]; rfl) ⟨by show 0 ≤ _; omega, by show 0 < _; omega, ⟨fun p hp => (by cases hp), fun k p q hk => (by cases hk)⟩, fun p hp => (by cases hp), Nat.zero_le _⟩ ?_
  rintro ⟨n, b, l⟩ ⟨hn, hb, hW, hL, hll⟩
  have hn : n ≤ tu.length + 1 := hn
  have hb : b < f.blocks.length := hb
  have hW : WayP f l := hW
  have hL : LinkP f l (b, 0) := hL
  have hll : l.length ≤ 200 * n := hll
  simp -implicitDefEqProofs (disch := omega) only [↓reduceIte, go_sem, reduceToNat, reduceAdd, reduceLeDiff, reduceEqDiff, reduceSub, reduceMul, reduceCtorEq]
  refine ifD (fun c2 => ?_) (fun c2 => ?_)
  ·have hB : f.blocks[b]? = some (blkAt f b) := by rw [blkAt, List.getD_eq_getElem?_getD, List.getElem?_eq_getElem hb]; rfl
   have hne := hM.ne _ (List.mem_of_getElem? hB)
   have hla := hM.last b _ hB
   have hl3 := hM.lab3 b _ hB
   have hc2 := hcl _ (List.mem_of_getElem? hB)
   have hxg := fun i hi => (insAt_get hB (i := i) hi).1
   have hvp : ∀ i, i < (blkAt f b).code.length → ValP f (b, i) := fun i hi => ⟨_, hB, hi⟩
   have hFb := hFr b (by omega)
   have hsb := sumTo_max (bs := f.blocks) (b := b + 1)
   rw [sumTo_succ hB] at hsb
   generalize blkAt f b = B at hB hne hla hl3 hc2 hxg hvp hsb
   simp -implicitDefEqProofs (disch := omega) only [↓reduceIte, go_sem, reduceToNat, reduceAdd, reduceLeDiff, reduceEqDiff, reduceSub, reduceMul, reduceCtorEq, hB, encBk]
   refine loopL (σ := Nat × List (Nat × Nat)) (fun s => ⟨[(1, .sl (tu.map fun n => [.int .u8 n])), (5, .rp [.bool f.machine, .str f.name, .sl (f.regs.map encRg), .sl (f.params.map encO), .sl (f.blocks.map encBk)]), (6, .rp LV), (7, .hs 7 s.2.length 0 s.2.length), (8, .hs 8 s.2.length 0 s.2.length), (9, .int .i64 (b : Int)), (10, .int .i64 (n : Int)), (11, .sl (B.code.map encIn)), (12, .int .i64 (s.1 : Int))], [(7, .arr s.2.length 1 (s.2.map fun p => [.sl ((ahdP f p).map encN)])), (8, .arr s.2.length 10 (s.2.map fun p => encIn (insP f p)))]⟩)
    (fun s => s.1 ≤ B.code.length ∧ WayP f s.2 ∧ LinkP f s.2 (b, s.1) ∧ s.2.length ≤ 200 * n + s.1) (fun s => B.code.length - s.1) (0, l) (by simp -implicitDefEqProofs (disch := omega) only [↓reduceIte, go_sem, reduceToNat, reduceAdd, reduceLeDiff, reduceEqDiff, reduceSub, reduceMul, reduceCtorEq]; rfl) ⟨Nat.zero_le _, hW, hL, hll⟩ ?_
   rintro ⟨i, l2⟩ ⟨hi, hW2, hL2, hll2⟩
   have hi : i ≤ B.code.length := hi
   have hW2 : WayP f l2 := hW2
   have hL2 : LinkP f l2 (b, i) := hL2
   have hll2 : l2.length ≤ 200 * n + i := hll2
   simp -implicitDefEqProofs (disch := omega) only [↓reduceIte, go_sem, reduceToNat, reduceAdd, reduceLeDiff, reduceEqDiff, reduceSub, reduceMul, reduceCtorEq]
   refine ifD (fun c3 => ?_) (fun c3 => ?_)
   ·have hx := hxg i (by omega)
    have hW3 := hW2.snoc (hvp i (by omega)) hL2
    have hL3 : LinkP f (l2 ++ [(b, i)]) (b, i + 1) := fun p hp => by
     rw [getLast_snoc hp]
     exact .inl ⟨rfl, rfl⟩
    have hP := hPr (2 * ((sumTo f.blocks b + i : Nat) : Int)) (by omega)
    have hw1 : IntKind.i64.wrap ((sumTo f.blocks b : Int) + (i : Int)) = ((sumTo f.blocks b + i : Nat) : Int) := by rw [wrap64 (by omega) (by omega)]; omega
    have hw2 : IntKind.i64.wrap (2 * ((sumTo f.blocks b + i : Nat) : Int)) = 2 * ((sumTo f.blocks b + i : Nat) : Int) := wrap64 (by omega) (by omega)
    have ha1 : presL f (idsU f) ((lastL f).map (·.2)) (2 * ((sumTo f.blocks b + i : Nat) : Int)) = ahdP f (b, i) := rfl
    rw [ha1] at hP
    have hx2 : insAtF f b i = insP f (b, i) := rfl
    rw [hx2] at hx
    have hcp1 : (((l2.length + 1 : Nat) : Int)) * ((24 : Nat) : Int) ≤ 70368744177664 := by omega
    have hcp2 : (((l2.length + 1 : Nat) : Int)) * ((136 : Nat) : Int) ≤ 70368744177664 := by omega
    simp -implicitDefEqProofs (disch := omega) only [↓reduceIte, go_sem, reduceToNat, reduceAdd, reduceLeDiff, reduceEqDiff, reduceSub, reduceMul, reduceCtorEq, hw1]
    refine callL hFb ?_
    simp -implicitDefEqProofs (disch := omega) only [↓reduceIte, go_sem, reduceToNat, reduceAdd, reduceLeDiff, reduceEqDiff, reduceSub, reduceMul, reduceCtorEq, hw1, hw2]
    refine callL hP ?_
    have h10 : ∀ x, (encIn x).length = 10 := fun _ => rfl
    have t10 : ∀ x, (encIn x).take 10 = encIn x := fun _ => rfl
    have o10 : ∀ x, oneAL (encIn x) = true := fun _ => rfl
    simp -implicitDefEqProofs (disch := omega) only [↓reduceIte, go_sem, reduceToNat, reduceAdd, reduceLeDiff, reduceEqDiff, reduceSub, reduceMul, reduceCtorEq, hcp1, hcp2, hx, h10, t10, o10]
    exact ⟨(i + 1, l2 ++ [(b, i)]), by simp only [List.length_append, List.length_cons, List.length_nil, Nat.zero_add, List.map_append, List.map_cons, List.map_nil]; rfl, ⟨by show i + 1 ≤ _; omega, hW3, hL3, by show (l2 ++ [(b, i)]).length ≤ 200 * n + (i + 1); rw [List.length_append, List.length_singleton]; omega⟩, by show B.code.length - (i + 1) < B.code.length - i; omega⟩
   ·have hie : i = B.code.length := by omega
    subst hie
    have hx := hxg (B.code.length - 1) (by omega)
    have hll3 : ((B.code.length : Nat) : Int) - 1 = ((B.code.length - 1 : Nat) : Int) := by omega
    have hnx : ∀ s, s ∈ rowAt (succF f.blocks) b → LinkP f l2 (s, 0) := fun s hs p hp => by
     rcases hL2 p hp with ⟨e1, e2⟩ | ⟨e1, _⟩
     ·obtain ⟨p1, p2⟩ := p
      have e1 : p1 = b := e1
      have e2 : B.code.length = p2 + 1 := e2
      subst e1
      exact .inr ⟨rfl, B, hB, e2.symm, hs⟩
     ·have e1 : B.code.length = 0 := e1
      omega
    generalize insAtF f b (B.code.length - 1) = x at hx hla hl3
    have hlab := hla.2
    have hl12 : l2.length < 1000000 := by omega
    simp -implicitDefEqProofs (disch := omega) only [↓reduceIte, go_sem, reduceToNat, reduceAdd, reduceLeDiff, reduceEqDiff, reduceSub, reduceMul, reduceCtorEq, hll3, hx, encIn]
    refine ifE (fun e1 => ?_) (fun e1 => ?_)
    ·simp -implicitDefEqProofs (disch := omega) only [↓reduceIte, go_sem, reduceToNat, reduceAdd, reduceLeDiff, reduceEqDiff, reduceSub, reduceMul, reduceCtorEq]
     exact ⟨l2, rfl, hW2, hl12⟩
    ·simp -implicitDefEqProofs (disch := omega) only [↓reduceIte, go_sem, reduceToNat, reduceAdd, reduceLeDiff, reduceEqDiff, reduceSub, reduceMul, reduceCtorEq]
     refine ifE (fun e2 => ?_) (fun e2 => ?_)
     ·simp -implicitDefEqProofs (disch := omega) only [↓reduceIte, go_sem, reduceToNat, reduceAdd, reduceLeDiff, reduceEqDiff, reduceSub, reduceMul, reduceCtorEq]
      exact ⟨l2, rfl, hW2, hl12⟩
     ·have hnl : n < tu.length := by omega
      have htn : tu[n]? = some (tu.getD n 0) := by simp [List.getD_eq_getElem?_getD, hnl]
      have ht0 := (htu _ (List.mem_of_getElem? htn)).1
      have ht1 := (htu _ (List.mem_of_getElem? htn)).2
      have htn2 : Option.map (fun n : Int => [AV.int .u8 n]) tu[n]? = some [.int .u8 (tu.getD n 0)] := by rw [htn]; rfl
      generalize tu.getD n 0 = tn at htn htn2 ht0 ht1
      have hm := tmod_nat (m := x.labels.length) ht0
      have hlp : 0 < x.labels.length := by omega
      have hq : tn.toNat % x.labels.length < x.labels.length := Nat.mod_lt _ hlp
      generalize tn.toNat % x.labels.length = q at hm hq
      have hri : x.labels[q]? = some (x.labels.getD q .empty) := by rw [List.getD_eq_getElem?_getD, List.getElem?_eq_getElem hq]; rfl
      generalize x.labels.getD q .empty = lb at hri
      have ⟨s, hs1, hs2, hs3⟩ := hlab _ (List.mem_of_getElem? hri)
      have hF := hFi lb
      have hfi : findI f.blocks lb = (s : Int) := by rw [findI, hs2]; rfl
      rw [hfi] at hF
      have hLs := hnx s hs3
      have hwt : IntKind.i64.wrap tn = tn := wrap64 (by omega) (by omega)
      simp -implicitDefEqProofs (disch := omega) only [↓reduceIte, go_sem, reduceToNat, reduceAdd, reduceLeDiff, reduceEqDiff, reduceSub, reduceMul, reduceCtorEq, htn, htn2, hwt, hm, hri, encSt]
      refine callL hF ?_
      simp -implicitDefEqProofs (disch := omega) only [↓reduceIte, go_sem, reduceToNat, reduceAdd, reduceLeDiff, reduceEqDiff, reduceSub, reduceMul, reduceCtorEq]
      refine accL (by kernel_rfl) ?_
      simp -implicitDefEqProofs (disch := omega) only [↓reduceIte, go_sem, reduceToNat, reduceAdd, reduceLeDiff, reduceEqDiff, reduceSub, reduceMul, reduceCtorEq]
      exact ⟨(n + 1, s, l2), rfl, ⟨by show n + 1 ≤ _; omega, hs1, hW2, hLs, by show l2.length ≤ 200 * (n + 1); omega⟩, by show tu.length + 1 - (n + 1) < tu.length + 1 - n; omega⟩
  ·simp -implicitDefEqProofs (disch := omega) only [↓reduceIte, go_sem, reduceToNat, reduceAdd, reduceLeDiff, reduceEqDiff, reduceSub, reduceMul, reduceCtorEq]
   exact ⟨l, rfl, hW, by omega⟩
 ·rintro l ⟨hW, hll⟩
  simp -implicitDefEqProofs (disch := omega) only [↓reduceIte, go_sem, reduceToNat, reduceAdd, reduceLeDiff, reduceEqDiff, reduceSub, reduceMul, reduceCtorEq]
  refine loopL (σ := Nat) (fun k => ⟨[(7, .hs 7 l.length 0 l.length), (8, .hs 8 l.length 0 l.length), (14, .int .i64 (k : Int))], [(7, .arr l.length 1 (l.map fun p => [.sl ((ahdP f p).map encN)])), (8, .arr l.length 10 (l.map fun p => encIn (insP f p)))]⟩)
   (fun k => k ≤ l.length) (fun k => l.length - k) 0 (by simp -implicitDefEqProofs (disch := omega) only [↓reduceIte, go_sem, reduceToNat, reduceAdd, reduceLeDiff, reduceEqDiff, reduceSub, reduceMul, reduceCtorEq]; rfl) (Nat.zero_le _) ?_
  intro k hk
  simp -implicitDefEqProofs (disch := omega) only [↓reduceIte, go_sem, reduceToNat, reduceAdd, reduceLeDiff, reduceEqDiff, reduceSub, reduceMul, reduceCtorEq]
  refine ifD (fun c2 => ?_) (fun c2 => ?_)
  ·have hp : l[k]? = some l[k] := List.getElem?_eq_getElem (by omega)
   generalize l[k] = p at hp
   have hvp := hW.val p (List.mem_of_getElem? hp)
   have hfew : (insP f p).args.length ≤ 3 := by
    have ⟨B, hB, hi⟩ := hvp
    exact hM.few B (List.mem_of_getElem? hB) _ (List.mem_of_getElem? (insAt_get hB hi).1)
   have hU := C10 (insP f p) (by omega)
   have huh := fun u hu => uses_ahead hM hvp (u := u) hu
   have hul3 : (usesX (insP f p)).length ≤ 3 := by
    have := usesS_len (l := (insP f p).args) (out := [])
    simp only [List.length_nil] at this
    show ((insP f p).args.foldl usesS []).length ≤ 3
    omega
   generalize usesX (insP f p) = U at hU huh hul3
   have h10 : ∀ x, (encIn x).length = 10 := fun _ => rfl
   have t10 : ∀ x, (encIn x).take 10 = encIn x := fun _ => rfl
   have o10 : ∀ x, oneAL (encIn x) = true := fun _ => rfl
   simp -implicitDefEqProofs (disch := omega) only [↓reduceIte, go_sem, reduceToNat, reduceAdd, reduceLeDiff, reduceEqDiff, reduceSub, reduceMul, reduceCtorEq, hp, h10, t10, o10]
   refine callL hU ?_
   simp -implicitDefEqProofs (disch := omega) only [↓reduceIte, go_sem, reduceToNat, reduceAdd, reduceLeDiff, reduceEqDiff, reduceSub, reduceMul, reduceCtorEq]
   refine loopL (σ := Nat) (fun j => ⟨[(7, .hs 7 l.length 0 l.length), (8, .hs 8 l.length 0 l.length), (14, .int .i64 (k : Int)), (15, .sl (U.map encN)), (16, .int .i64 (j : Int))], [(7, .arr l.length 1 (l.map fun p => [.sl ((ahdP f p).map encN)])), (8, .arr l.length 10 (l.map fun p => encIn (insP f p)))]⟩)
    (fun j => j ≤ U.length) (fun j => U.length - j) 0 (by simp -implicitDefEqProofs (disch := omega) only [↓reduceIte, go_sem, reduceToNat, reduceAdd, reduceLeDiff, reduceEqDiff, reduceSub, reduceMul, reduceCtorEq]; rfl) (Nat.zero_le _) ?_
   intro j hj
   simp -implicitDefEqProofs (disch := omega) only [↓reduceIte, go_sem, reduceToNat, reduceAdd, reduceLeDiff, reduceEqDiff, reduceSub, reduceMul, reduceCtorEq]
   refine ifD (fun c3 => ?_) (fun c3 => ?_)
   ·have hg : U[j]? = some U[j] := List.getElem?_eq_getElem (by omega)
    have hu0 := huh _ (List.mem_of_getElem? hg)
    generalize U[j] = u at hg hu0
    simp -implicitDefEqProofs (disch := omega) only [↓reduceIte, go_sem, reduceToNat, reduceAdd, reduceLeDiff, reduceEqDiff, reduceSub, reduceMul, reduceCtorEq]
    refine loopL (σ := Nat) (fun m => ⟨[(7, .hs 7 l.length 0 l.length), (8, .hs 8 l.length 0 l.length), (14, .int .i64 (k : Int)), (15, .sl (U.map encN)), (16, .int .i64 (j : Int)), (17, .int .i64 ((m : Int) - 1))], [(7, .arr l.length 1 (l.map fun p => [.sl ((ahdP f p).map encN)])), (8, .arr l.length 10 (l.map fun p => encIn (insP f p)))]⟩)
     (fun m => m ≤ k + 1 ∧ ∀ p, 0 < m → l[m - 1]? = some p → u ∈ ahdP f p) (fun m => m) (k + 1) (by simp -implicitDefEqProofs (disch := omega) only [↓reduceIte, go_sem, reduceToNat, reduceAdd, reduceLeDiff, reduceEqDiff, reduceSub, reduceMul, reduceCtorEq]; simp) ⟨Nat.le_refl _, fun q _ hq => by rw [Nat.add_sub_cancel, hp] at hq; rw [← Option.some.inj hq]; exact hu0⟩ ?_
    rintro m ⟨hm, hmu⟩
    simp -implicitDefEqProofs (disch := omega) only [↓reduceIte, go_sem, reduceToNat, reduceAdd, reduceLeDiff, reduceEqDiff, reduceSub, reduceMul, reduceCtorEq]
    refine ifD (fun c4 => ?_) (fun c4 => ?_)
    ·obtain ⟨i, rfl⟩ : ∃ i, m = i + 1 := ⟨m - 1, by omega⟩
     have hq : l[i]? = some l[i] := List.getElem?_eq_getElem (by omega)
     generalize l[i] = q at hq
     have huq := hmu q (by omega) (by rw [Nat.add_sub_cancel]; exact hq)
     have hvq := hW.val q (List.mem_of_getElem? hq)
     have hql : (ahdP f q).length < 1000000 := by
      have := hple (2 * ((sumTo f.blocks q.1 + q.2 : Nat) : Int))
      show (presL f (idsU f) ((lastL f).map (·.2)) (2 * ((sumTo f.blocks q.1 + q.2 : Nat) : Int))).length < 1000000
      omega
     have jA := inZ (ahdP f q) u hql
     rw [decide_eq_true huq] at jA
     have hii : ((i + 1 : Nat) : Int) - 1 = (i : Int) := by omega
     rw [hii]
     simp -implicitDefEqProofs (disch := omega) only [↓reduceIte, go_sem, reduceToNat, reduceAdd, reduceLeDiff, reduceEqDiff, reduceSub, reduceMul, reduceCtorEq, hq, hg, encN]
     refine callL jA ?_
     simp -implicitDefEqProofs (disch := omega) only [↓reduceIte, go_sem, reduceToNat, reduceAdd, reduceLeDiff, reduceEqDiff, reduceSub, reduceMul, reduceCtorEq]
     refine accL (by kernel_rfl) ?_
     simp -implicitDefEqProofs (disch := omega) only [↓reduceIte, go_sem, reduceToNat, reduceAdd, reduceLeDiff, reduceEqDiff, reduceSub, reduceMul, reduceCtorEq]
     refine ifD (fun c5 => ?_) (fun c5 => ?_)
     ·have hr : l[i - 1]? = some l[i - 1] := List.getElem?_eq_getElem (by omega)
      generalize l[i - 1] = r at hr
      have hq2 : l[i - 1 + 1]? = some q := by rw [show i - 1 + 1 = i by omega]; exact hq
      have hba := @back_ahead f hM l hW (i - 1) r q u hr hq2 huq
      have hii2 : (i : Int) - 1 = ((i - 1 : Nat) : Int) := by omega
      have hir : (encIn (insP f r)) = [.int .i64 (insP f r).op, .int .i64 (insP f r).dst.kind, .int .i64 (insP f r).dst.cls, .int .i64 (insP f r).dst.n, .int .i64 (insP f r).dst.tag, .sl ((insP f r).args.map encO), .str (insP f r).name, .int .i64 (insP f r).off, .sl ((insP f r).labels.map encSt), .sl ((insP f r).cases.map encCs)] := rfl
      have hnx : givesX (insP f r) u = false → ∀ p, 0 < i → l[i - 1]? = some p → u ∈ ahdP f p := fun hg p _ hp => by
       rw [hr] at hp
       rw [← Option.some.inj hp]
       exact hba hg
      clear hba hq2
      simp -implicitDefEqProofs (disch := omega) only [↓reduceIte, go_sem, reduceToNat, reduceAdd, reduceLeDiff, reduceEqDiff, reduceSub, reduceMul, reduceCtorEq, hii2, hr, hir, hg, encN]
      refine ifE (fun e1 => ?_) (fun e1 => ?_)
      ·simp -implicitDefEqProofs (disch := omega) only [↓reduceIte, go_sem, reduceToNat, reduceAdd, reduceLeDiff, reduceEqDiff, reduceSub, reduceMul, reduceCtorEq, hii2, hr, hir, hg, encN]
       refine accL (by kernel_rfl) ?_
       simp -implicitDefEqProofs (disch := omega) only [↓reduceIte, go_sem, reduceToNat, reduceAdd, reduceLeDiff, reduceEqDiff, reduceSub, reduceMul, reduceCtorEq]
       refine ifE (fun e2 => ?_) (fun e2 => ?_)
       ·simp -implicitDefEqProofs (disch := omega) only [↓reduceIte, go_sem, reduceToNat, reduceAdd, reduceLeDiff, reduceEqDiff, reduceSub, reduceMul, reduceCtorEq]
        exact ⟨j + 1, rfl, by omega, by omega⟩
       ·simp -implicitDefEqProofs (disch := omega) only [↓reduceIte, go_sem, reduceToNat, reduceAdd, reduceLeDiff, reduceEqDiff, reduceSub, reduceMul, reduceCtorEq]
        exact ⟨i, rfl, ⟨by omega, hnx (by simp [givesX, e2])⟩, by omega⟩
      ·simp -implicitDefEqProofs (disch := omega) only [↓reduceIte, go_sem, reduceToNat, reduceAdd, reduceLeDiff, reduceEqDiff, reduceSub, reduceMul, reduceCtorEq]
       refine accL (by kernel_rfl) ?_
       simp -implicitDefEqProofs (disch := omega) only [↓reduceIte, go_sem, reduceToNat, reduceAdd, reduceLeDiff, reduceEqDiff, reduceSub, reduceMul, reduceCtorEq]
       exact ⟨i, rfl, ⟨by omega, hnx (by simp [givesX, e1])⟩, by omega⟩
     ·simp -implicitDefEqProofs (disch := omega) only [↓reduceIte, go_sem, reduceToNat, reduceAdd, reduceLeDiff, reduceEqDiff, reduceSub, reduceMul, reduceCtorEq]
      refine accL (by kernel_rfl) ?_
      simp -implicitDefEqProofs (disch := omega) only [↓reduceIte, go_sem, reduceToNat, reduceAdd, reduceLeDiff, reduceEqDiff, reduceSub, reduceMul, reduceCtorEq]
      exact ⟨i, rfl, ⟨by omega, fun p h0 => absurd h0 (by omega)⟩, by omega⟩
    ·simp -implicitDefEqProofs (disch := omega) only [↓reduceIte, go_sem, reduceToNat, reduceAdd, reduceLeDiff, reduceEqDiff, reduceSub, reduceMul, reduceCtorEq]
     exact ⟨j + 1, rfl, by omega, by omega⟩
   ·simp -implicitDefEqProofs (disch := omega) only [↓reduceIte, go_sem, reduceToNat, reduceAdd, reduceLeDiff, reduceEqDiff, reduceSub, reduceMul, reduceCtorEq]
    exact ⟨k + 1, rfl, by omega, by omega⟩
  ·simp -implicitDefEqProofs (disch := omega) only [↓reduceIte, go_sem, reduceToNat, reduceAdd, reduceLeDiff, reduceEqDiff, reduceSub, reduceMul, reduceCtorEq]
   refine callL C6 ?_
   simp -implicitDefEqProofs (disch := omega) only [↓reduceIte, go_sem, reduceToNat, reduceAdd, reduceLeDiff, reduceEqDiff, reduceSub, reduceMul, reduceCtorEq]
   exact ⟨rfl, rfl⟩
end Go.Proofs.YtgbmneoeggdaoaaGreatDoor.X
