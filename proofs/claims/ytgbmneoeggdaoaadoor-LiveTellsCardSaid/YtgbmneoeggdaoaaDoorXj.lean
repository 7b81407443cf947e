/- live's backward over blocks: a round of live.New. -/
import Derived.Test.YtgbmneoeggdaoaaDoorXi
import Derived.Test.YtgbmneoeggdaoaaDoorXam5
namespace Go.Proofs.YtgbmneoeggdaoaaDoor.X
open Go Go.AM Go.Proofs
attribute [local go_sem ↓] w_skip w_lbl w_ops w_draw w_pre w_post w_alt w_seq w_cond w_block w_join w_loop w_exit w_ret w_scope w_rfunc l_nil l_cons th_n th_e th_r bk_n bk_r bk_e t_nil t_it t_call t_callg i_nil i_one i_grp s_nil s_cons c_call c_callg e_rar e_dynB e_mv e_nil e_dyn e_nilb e_frz o_mov o_bin o_eq o_un o_conv o_len o_slen o_idx o_aix o_fad o_load o_store o_boxp o_boxo o_boxm o_alloc o_allocm o_alloca o_nilarr o_build o_bslp o_bslo o_slc o_sslc o_slc3 o_sidx o_mkfn o_mkmv o_calle o_bslr o_ridx o_rload o_rapp o_vidx o_ext o_pick o_callf o_callb o_appd o_clear o_mxn o_field o_nilc o_make o_makeb o_buildm o_boxg o_mkif o_tass o_eqs o_callo o_callx k_int k_str k_bool k_grb k_grt k_some k_none k_rar k_arr k_lens k_lenf k_lenh k_lenb k_idxb k_idxs k_idxf k_idxh k_ld k_loadp k_loadr k_loade k_storer k_storee k_oin k_ois k_slcs k_slcf k_slch k_slc3s k_slc3f k_slc3h k_app2 k_apps k_appf k_apph k_cals k_cald k_cali k_cnb k_cna k_esn k_esc k_efn k_efc k_esh b_add b_sub b_mul b_quo b_rem b_and b_or b_xor b_andNot b_eql b_neq b_lss b_leq b_gtr b_geq b_shl b_shr b_seq b_sne b_slt b_sad q_bool q_str q_nil q_nilf u_not u_neg u_xor f_ret f_nor v_r v_c v_g v_reg v_ob v_set v_put v_so v_sn v_pn v_pc g_nil d_nil p_nil m_mv m_fr z_nil z_cons z_an z_ac g_cons d_cons p_cons y_mov y_bin y_eq y_un y_conv y_len y_slen y_idx y_aix y_fad y_load y_store y_boxp y_boxo y_boxm y_alloc y_alloca y_allocm y_nilarr y_build y_bslp y_bslo y_slc y_sslc y_slc3 y_sidx y_mkfn y_ext y_pick y_callf y_callb y_appd y_clear y_mxn y_field y_nilc y_make y_makeb y_buildm y_boxg y_mkif y_tass y_eqs y_callo y_mkmv y_callx y_vidx y_bslr y_ridx y_rload y_rapp y_calle nb_if
attribute [local go_sem] nbd VL_mk VL2_mk If_t If_f If_not If_and If_or If_dt If_df If_et If_ef If_ne Ck_t Ck_h Opt_s ld_a ld_c lm_a lm_c renL ren keepR renA idxM invL getObs mapOb renOb allNone putAll fzR fzO fz fzL fzOb fzB frzOk upFrom mapR resOne resA cellsOf oneA oneAL isP isPL okSt kRows kParts fillA setAt bor bor0 bor1 bor2 borC borI key0 key1 key2 keysA fillM cellsM cellM unif ptrA ifOk kPartsM getObsM allNoneM zipU scal0 scalar eqC evNil evNilF memK keyX hideM xbor scal1 scalX scalOb bndA mkMag showM lendV hideV hideR hideOb hideL hideO showL backO noneO mapA List.map_cons List.map_nil List.cons_append List.nil_append List.append_nil List.drop_zero List.drop_succ_cons List.drop_nil List.take_succ_cons List.take_zero List.take_nil List.length_cons List.length_nil List.length_map List.getElem?_map Option.map_some Option.map_none Int.toNat_natCast Int.toNat_zero Int.toNat_one Int.natCast_nonneg List.flatMap_cons List.flatMap_nil List.all_cons List.all_nil List.any_cons List.any_nil Bool.or_false Bool.false_or Bool.or_true Bool.true_or Bool.and_true Bool.true_and Bool.and_false Bool.false_and Bool.not_true Bool.not_false beq_self_eq_true nb_self all_nil List.forall_mem_cons tk_map tk_app bs_self bs_dec bq_t bq_f Bool.not_not decide_true decide_false Bool.not_not and_self and_true true_and eq_self List.reverse_cons List.reverse_nil List.getElem?_cons_zero List.getElem?_cons_succ cond_true cond_false List.set_cons_zero List.set_cons_succ Nat.zero_add Nat.add_zero if_true if_false ite_true ite_false implies_true wrap64 wrap8
open Go.Bits
set_option linter.unusedVariables false
set_option linter.unusedSimpArgs false
set_option maxRecDepth 10000
set_option maxHeartbeats 1000000
def blkAt (f : Fnc) (b : Nat) : Blk := f.blocks.getD b ⟨.empty, false, [], []⟩
def rowAt (S : List (List Nat)) (b : Nat) : List Nat := S.getD b []
/-- One block's step, and j of them from the last block on. -/
def stp1 (u : List Int) (f : Fnc) (S : List (List Nat)) (b : Nat) (x : Bool × List (List Bool × List Bool)) : Bool × List (List Bool × List Bool) :=
 (x.1 || stepC u (blkAt f b) (rowAt S b) x.2 b, stepL u (blkAt f b) (rowAt S b) x.2 b)
def rndJ (u : List Int) (f : Fnc) (S : List (List Nat)) (x : Bool × List (List Bool × List Bool)) : Nat → Bool × List (List Bool × List Bool)
 | 0 => x
 | j + 1 => stp1 u f S (f.blocks.length - 1 - j) (rndJ u f S x j)
/-- What live.New may take for granted of its function. -/
structure LvIn (f : Fnc) (S : List (List Nat)) : Prop where
 len : S.length = f.blocks.length
 row : ∀ r ∈ S, r.length < 1000000 ∧ ∀ s ∈ r, s < f.blocks.length
 code : ∀ B ∈ f.blocks, B.code.length < 1000000 ∧ ∀ x ∈ B.code, x.args.length ≤ 9223372036854775807
 nb : f.blocks.length < 1000000
structure LvL (f : Fnc) (u : List Int) (L : List (List Bool × List Bool)) : Prop where
 len : L.length = f.blocks.length
 all : ∀ x ∈ L, x.1.length = u.length ∧ x.2.length = u.length
theorem insAt_len {f : Fnc} {u : List Int} {L : List (List Bool × List Bool)} (h : LvL f u L) {b : Nat} (hb : b < f.blocks.length) : (insAt L b).length = u.length := by
 have hb : b < L.length := by rw [h.len]; exact hb
 rw [insAt, List.getD_eq_getElem?_getD, List.getElem?_eq_getElem hb]
 exact (h.all _ (List.getElem_mem hb)).1
theorem outAt_len {f : Fnc} {u : List Int} {L : List (List Bool × List Bool)} (h : LvL f u L) {b : Nat} (hb : b < f.blocks.length) : (outAt L b).length = u.length := by
 have hb : b < L.length := by rw [h.len]; exact hb
 rw [outAt, List.getD_eq_getElem?_getD, List.getElem?_eq_getElem hb]
 exact (h.all _ (List.getElem_mem hb)).2
theorem outK_len {f : Fnc} {u : List Int} {L : List (List Bool × List Bool)} (h : LvL f u L) {b : Nat} (hb : b < f.blocks.length) : ∀ {r : List Nat}, (outK L r b).length = u.length := by
 have h0 := outAt_len h hb
 intro r
 unfold outK
 revert h0
 generalize outAt L b = o
 intro h0
 induction r generalizing o with
 | nil => exact h0
 | cons s l ih => exact ih (orS o (insAt L s)) ((two_len _ _ _).trans h0)
theorem LvL.step {f : Fnc} {u : List Int} {L : List (List Bool × List Bool)} (h : LvL f u L) {B : Blk} {r : List Nat} {b : Nat} (hb : b < f.blocks.length) : LvL f u (stepL u B r L b) := by
 refine ⟨by rw [stepL, List.length_set, h.len], fun x hx => ?_⟩
 rcases List.mem_or_eq_of_mem_set hx with hx | hx
 ·exact h.all x hx
 ·rw [hx]
  exact ⟨(two_len _ _ _).trans (insAt_len h hb), outK_len h hb⟩
theorem LvL.rnd {f : Fnc} {u : List Int} {S : List (List Nat)} {x : Bool × List (List Bool × List Bool)} (h : LvL f u x.2) : ∀ {j : Nat}, j ≤ f.blocks.length → LvL f u (rndJ u f S x j).2
 | 0, _ => h
 | j + 1, hj => (LvL.rnd h (j := j) (by omega)).step (by omega)
theorem keys_stL {f : Fnc} {v vi vo : Nat} {rg : List (List AV)} {u : List Int} {ch : Bool} {L : List (List Bool × List Bool)} (hl : L.length < 1000000) : ∀ k ∈ (stL f v vi vo rg u ch L).map (·.1), k < 1000000000 := by
 have : ∀ (L : List (List Bool × List Bool)) i, ∀ k ∈ (objsL u.length i L).map (·.1), k < 2000000 + 4 * (i + L.length) := by
  intro L
  induction L with
  | nil => intro i k hk; cases hk
  | cons x r ih =>
   intro i k hk
   obtain ⟨a, b⟩ := x
   simp only [objsL, List.map_cons, List.mem_cons] at hk
   rw [List.length_cons]
   rcases hk with h | h | h | h | h
   ·unfold nmA at h; omega
   ·unfold nmA at h; omega
   ·unfold nmA at h; omega
   ·unfold nmA at h; omega
   ·have := ih (i + 1) k h
    omega
 intro k hk
 simp only [stL, List.map_cons, List.mem_cons] at hk
 rcases hk with h | h | h | h | h | h | h
 ·omega
 ·omega
 ·omega
 ·omega
 ·omega
 ·omega
 ·have := this L 0 k h
  omega
theorem C25 (f : Fnc) (v vi vo : Nat) (rg : List (List AV)) (u : List Int) (ch : Bool) (L : List (List Bool × List Bool)) (S P : List (List Nat)) (hI : LvIn f S) (hL : LvL f u L) (hul : u.length < 1000000) (hrg : rg.take u.length = u.map encN) (hsr : Srt u) :
  CtrG Tryd.prog 25 [.sl (f.blocks.map encBk), .fn 26 [.rp [grP S P], .ref 3 0, .ref 7 0]] (stL f v vi vo rg u ch L) (rndG (stL f v vi vo rg u (rndJ u f S (ch, L) f.blocks.length).1 (rndJ u f S (ch, L) f.blocks.length).2)) := by
 have hnb := hI.nb
 apply ctr_bG A25_ok (keys_stL (by rw [hL.len]; exact hI.nb)) (Nat.le_of_ble_eq_true rfl)
 unfold A25
 simp only [initL, Nat.reduceAdd]
 have ⟨G, eG⟩ : ∃ G, grP S P = .rp G := ⟨_, rfl⟩
 have hst : ∀ (b : Nat), b < f.blocks.length → ∀ x, LvL f u x.2 → CtrG Tryd.prog 26 [.int .i64 (b : Int), .agg (encBk (blkAt f b)), .rp [.rp G], .ref 3 0, .ref 7 0] (stL f v vi vo rg u x.1 x.2) (rndG (stL f v vi vo rg u (stp1 u f S b x).1 (stp1 u f S b x).2)) := by
  intro b hb x hx
  have hBk : f.blocks[b]? = some (blkAt f b) := by rw [blkAt, List.getD_eq_getElem?_getD, List.getElem?_eq_getElem hb]; rfl
  have hbS : b < S.length := by rw [hI.len]; exact hb
  have hS : S[b]? = some (rowAt S b) := by rw [rowAt, List.getD_eq_getElem?_getD, List.getElem?_eq_getElem hbS]; rfl
  have hr := hI.row _ (List.mem_of_getElem? hS)
  have hc := hI.code _ (List.mem_of_getElem? hBk)
  rw [← eG]
  exact C26 f v vi vo rg u x.1 x.2 S P b (blkAt f b) (rowAt S b) hbS hS hr.1 (fun s hs => by rw [hx.len]; exact hr.2 s hs) (by rw [hx.len]; exact hb) hx.all hul hrg hsr hBk hc.2 hc.1 (by rw [hx.len]; exact hnb) (keys_stL (by rw [hx.len]; exact hnb))
 rw [eG]
 simp -implicitDefEqProofs (maxSteps := 2000000) (disch := omega) only [↓reduceIte, go_sem, Int.reduceToNat, Nat.reduceAdd, Nat.reduceLeDiff, Nat.reduceEqDiff, Nat.reduceSub, Nat.reduceMul, reduceCtorEq]
 refine loopB (σ := Nat) (fun j => ⟨[(0, .sl (f.blocks.map encBk)), (1, .fn 26 [.rp [.rp G], .ref 3 0, .ref 7 0]), (4, .int .i64 ((f.blocks.length : Int) - 1 - j))], stL f v vi vo rg u (rndJ u f S (ch, L) j).1 (rndJ u f S (ch, L) j).2⟩)
  (fun j => j ≤ f.blocks.length) (fun j => f.blocks.length - j) 0 ?_ (Nat.zero_le _) ?_
 ·refine .drop .refl (reg_sub ?_) fun k => rfl
  intro p hp
  simp only [List.mem_cons, List.not_mem_nil, or_false] at hp
  rcases hp with rfl | rfl | rfl <;> (simp -implicitDefEqProofs (maxSteps := 2000000) (disch := omega) only [↓reduceIte, go_sem, Int.reduceToNat, Nat.reduceAdd, Nat.reduceLeDiff, Nat.reduceEqDiff, Nat.reduceSub, Nat.reduceMul, reduceCtorEq]; try rfl)
  simp
 ·intro j hj
  simp -implicitDefEqProofs (maxSteps := 2000000) (disch := omega) only [↓reduceIte, go_sem, Int.reduceToNat, Nat.reduceAdd, Nat.reduceLeDiff, Nat.reduceEqDiff, Nat.reduceSub, Nat.reduceMul, reduceCtorEq]
  have hxj := hL.rnd (S := S) (x := (ch, L)) hj
  generalize hx : rndJ u f S (ch, L) j = x at hxj ⊢
  refine ifD (fun c => ?_) (fun c => ?_)
  ·have hb : f.blocks.length - 1 - j < f.blocks.length := by omega
   have hc := hst _ hb x hxj
   have hBk : f.blocks[f.blocks.length - 1 - j]? = some (blkAt f (f.blocks.length - 1 - j)) := by rw [blkAt, List.getD_eq_getElem?_getD, List.getElem?_eq_getElem hb]; rfl
   have hi : (f.blocks.length : Int) - 1 - j = ((f.blocks.length - 1 - j : Nat) : Int) := by omega
   rw [hi]
   have hx' : rndJ u f S (ch, L) (j + 1) = stp1 u f S (f.blocks.length - 1 - j) x := by rw [← hx]; rfl
   have hn1 : ((f.blocks.length - 1 - j : Nat) : Int) - 1 = (f.blocks.length : Int) - 1 - (j + 1 : Nat) := by omega
   generalize f.blocks.length - 1 - j = b at hc hBk hx' hn1 ⊢
   unfold encBk at hc ⊢
   simp -implicitDefEqProofs (maxSteps := 2000000) (disch := omega) only [↓reduceIte, go_sem, Int.reduceToNat, Nat.reduceAdd, Nat.reduceLeDiff, Nat.reduceEqDiff, Nat.reduceSub, Nat.reduceMul, reduceCtorEq, hBk]
   refine callGR hc fun res objs' hR => ?_
   have hR1 : res = [] := hR.1
   rw [hR1]
   simp -implicitDefEqProofs (maxSteps := 2000000) (disch := omega) only [↓reduceIte, go_sem, Int.reduceToNat, Nat.reduceAdd, Nat.reduceLeDiff, Nat.reduceEqDiff, Nat.reduceSub, Nat.reduceMul, reduceCtorEq]
   refine ⟨j + 1, .drop .refl (reg_sub ?_) fun k => ?_, by omega, by omega⟩
   ·intro p hp
    simp only [List.mem_cons, List.not_mem_nil, or_false] at hp
    rcases hp with rfl | rfl | rfl <;> (simp -implicitDefEqProofs (maxSteps := 2000000) (disch := omega) only [↓reduceIte, go_sem, Int.reduceToNat, Nat.reduceAdd, Nat.reduceLeDiff, Nat.reduceEqDiff, Nat.reduceSub, Nat.reduceMul, reduceCtorEq]; try rfl)
    rw [hn1]
   ·rw [hx']
    exact (hR.2 k).symm
  ·simp -implicitDefEqProofs (maxSteps := 2000000) (disch := omega) only [↓reduceIte, go_sem, Int.reduceToNat, Nat.reduceAdd, Nat.reduceLeDiff, Nat.reduceEqDiff, Nat.reduceSub, Nat.reduceMul, reduceCtorEq]
   refine ⟨[], rfl, rfl, fun k => ?_⟩
   have : j = f.blocks.length := by omega
   rw [this] at hx
   rw [hx]
/- The sets of live.New while they are made: objects that get their names. -/
theorem pairsOk_of {α : Type} {clash : α → α → Bool} {prec : List (List Nat)} : ∀ {l : List α} {j : Nat} {seen : List (Nat × α)}, (∀ p ∈ seen, ∀ y ∈ l, clash p.2 y = false) → l.Pairwise (fun x y => clash x y = false) → pairsOk clash prec j seen l = true
 | [], j, seen, _, _ => rfl
 | y :: l, j, seen, h1, h2 => by
  rw [List.pairwise_cons] at h2
  simp only [pairsOk, Bool.and_eq_true, List.all_eq_true, Bool.or_eq_true]
  refine ⟨fun p hp => .inl (by rw [h1 p hp y List.mem_cons_self]; rfl), pairsOk_of (fun p hp z hz => ?_) h2.2⟩
  rcases List.mem_cons.1 hp with rfl | hp
  ·exact h2.1 z hz
  ·exact h1 p hp z (List.mem_cons_of_mem _ hz)
def idL (ks : List Nat) : List (Nat × Nat) := ks.map fun k => (k, k)
theorem optA_idL {k : Nat} : ∀ {ks : List Nat}, optA (idL ks) k = if k ∈ ks then some k else none
 | [] => rfl
 | a :: ks => by
  have ih := optA_idL (k := k) (ks := ks)
  simp only [idL, List.map_cons, optA] at ih ⊢
  by_cases e : a = k
  ·subst e
   rw [Nat.beq_refl, if_pos List.mem_cons_self]
   rfl
  ·rw [beq_ne e]
   simp only [cond_false]
   rw [ih]
   have : k ∈ a :: ks ↔ k ∈ ks := ⟨fun h => (List.mem_cons.1 h).resolve_left fun h => e h.symm, List.mem_cons_of_mem _⟩
   by_cases c : k ∈ ks
   ·rw [if_pos c, if_pos (this.2 c)]
   ·rw [if_neg c, if_neg (fun h => c (this.1 h))]
/-- The names that are kept, and a new set's two. -/
def ksN (t : Nat) : List Nat := [3, 12, 1012, 1013, 1014] ++ (List.range (2 * t)).map (2000000 + ·)
def mN (d t : Nat) : List (Nat × Nat) := (d, 2000000 + 2 * t) :: (d + 1000, 2000000 + 2 * t + 1) :: idL (ksN t)
theorem mem_ksN {t k : Nat} : k ∈ ksN t ↔ k = 3 ∨ k = 12 ∨ k = 1012 ∨ k = 1013 ∨ k = 1014 ∨ (2000000 ≤ k ∧ k < 2000000 + 2 * t) := by
 simp only [ksN, List.mem_append, List.mem_cons, List.not_mem_nil, or_false, List.mem_map, List.mem_range, or_assoc]
 constructor
 ·rintro (h | h | h | h | h | ⟨a, h1, h2⟩)
  ·exact .inl h
  ·exact .inr (.inl h)
  ·exact .inr (.inr (.inl h))
  ·exact .inr (.inr (.inr (.inl h)))
  ·exact .inr (.inr (.inr (.inr (.inl h))))
  ·exact .inr (.inr (.inr (.inr (.inr (by omega)))))
 ·rintro (h | h | h | h | h | h)
  ·exact .inl h
  ·exact .inr (.inl h)
  ·exact .inr (.inr (.inl h))
  ·exact .inr (.inr (.inr (.inl h)))
  ·exact .inr (.inr (.inr (.inr (.inl h))))
  ·exact .inr (.inr (.inr (.inr (.inr ⟨k - 2000000, by omega, by omega⟩))))
theorem ksN_nodup {t : Nat} : (ksN t).Nodup := by
 unfold ksN
 rw [List.nodup_append]
 refine ⟨by decide, ?_, fun a ha b hb => ?_⟩
 ·refine List.Pairwise.map _ (fun a b (h : a ≠ b) => ?_) List.nodup_range
  omega
 ·simp only [List.mem_cons, List.not_mem_nil, or_false] at ha
  simp only [List.mem_map, List.mem_range] at hb
  obtain ⟨c, _, rfl⟩ := hb
  omega
theorem mN_ok {d t : Nat} (hd : d = 60 ∨ d = 75) : keysOk (mN d t) = true := by
 unfold keysOk mN
 refine pairsOk_of (fun p hp => by cases hp) ?_
 have hc : ∀ x : Nat × Nat, x ∈ idL (ksN t) → x.1 = x.2 ∧ x.1 ∈ ksN t := by
  intro x hx
  simp only [idL, List.mem_map] at hx
  obtain ⟨k, hk, rfl⟩ := hx
  exact ⟨rfl, hk⟩
 rw [List.pairwise_cons, List.pairwise_cons]
 refine ⟨fun y hy => ?_, fun y hy => ?_, ?_⟩
 ·rcases List.mem_cons.1 hy with rfl | hy
  ·simp only [Bool.or_eq_false_iff]
   exact ⟨beq_ne (by omega), beq_ne (by omega)⟩
  ·have ⟨h1, h2⟩ := hc y hy
   have h2 := mem_ksN.1 h2
   simp only [Bool.or_eq_false_iff]
   exact ⟨beq_ne (by omega), beq_ne (by omega)⟩
 ·have ⟨h1, h2⟩ := hc y hy
  have h2 := mem_ksN.1 h2
  simp only [Bool.or_eq_false_iff]
  exact ⟨beq_ne (by omega), beq_ne (by omega)⟩
 ·unfold idL
  refine List.Pairwise.map _ (fun a b (h : a ≠ b) => ?_) ksN_nodup
  simp only [Bool.or_eq_false_iff]
  exact ⟨beq_ne h, beq_ne h⟩
theorem optA_mN {d t k : Nat} : optA (mN d t) k = if k = d then some (2000000 + 2 * t) else if k = d + 1000 then some (2000000 + 2 * t + 1) else if k ∈ ksN t then some k else none := by
 unfold mN
 by_cases e : k = d
 ·subst e
  rw [if_pos rfl, optA_hit]
 ·rw [if_neg e, optA_ne e]
  by_cases e1 : k = d + 1000
  ·subst e1
   rw [if_pos rfl, optA_hit]
  ·rw [if_neg e1, optA_ne e1, optA_idL]
/-- Objects that are told by their names, when others get new names. -/
theorem mv_ob {x : St} {rs : List Nat} {m : List (Nat × Nat)} {objs : List (Nat × Ob)} (hk : keysOk m = true) (h1 : ∀ a b, optA m a = some b → optA objs b = (x.ob a).map (renOb m)) (h2 : ∀ b, (∀ a, optA m a ≠ some b) → optA objs b = none) (j : Nat) : optA objs j = (x.mv rs m).ob j := by
 show optA objs j = optA (renA m x.objs m) j
 rw [renA_ob (keysOk_spec hk).2]
 cases hi : optA (invL m) j with
 | none =>
  rw [h2 j fun a ha => by rw [(optA_inv hk).2 ha] at hi; cases hi]
  rfl
 | some a => rw [h1 a j ((optA_inv hk).1 hi)]; rfl
theorem mv_reg {x : St} {m : List (Nat × Nat)} {l : List (Nat × AV)} {os : List (Nat × Ob)} (h : ∀ p ∈ l, ren m (x.reg p.1) = p.2) (j : Nat) : (⟨l, os⟩ : St).reg j = (x.mv (l.map (·.1)) m).reg j := by
 show getA .dead l j = getA .dead (keepR (l.map (·.1)) x.reg m) j
 induction l with
 | nil => rfl
 | cons p l ih =>
  have h0 := h p List.mem_cons_self
  obtain ⟨a, v⟩ := p
  simp only [List.map_cons, keepR, getA]
  cases hb : Nat.beq a j with
  | true => exact h0.symm
  | false => exact ih fun q hq => h q (List.mem_cons_of_mem _ hq)
/-- The sets made so far, all empty. -/
def obE (n k : Nat) : Ob := if k % 2 = 0 then bxS n k else wdS (noneB n)
def objsE (n t : Nat) : List (Nat × Ob) := (List.range (2 * t)).map fun i => (2000000 + i, obE n (2000000 + i))
theorem optA_mapK {f : Nat → Ob} {k : Nat} : ∀ {l : List Nat}, optA (l.map fun i => (i, f i)) k = if k ∈ l then some (f k) else none
 | [] => rfl
 | a :: l => by
  have ih := optA_mapK (f := f) (k := k) (l := l)
  simp only [List.map_cons]
  by_cases e : k = a
  ·subst e
   rw [optA_hit, if_pos List.mem_cons_self]
  ·rw [optA_ne e, ih]
   have : k ∈ a :: l ↔ k ∈ l := by simp [e]
   by_cases c : k ∈ l
   ·rw [if_pos c, if_pos (this.2 c)]
   ·rw [if_neg c, if_neg (fun h => c (this.1 h))]
theorem optA_objsE {n t k : Nat} : optA (objsE n t) k = if 2000000 ≤ k ∧ k < 2000000 + 2 * t then some (obE n k) else none := by
 have : objsE n t = ((List.range (2 * t)).map (2000000 + ·)).map fun i => (i, obE n i) := by simp [objsE, List.map_map, Function.comp_def]
 rw [this, optA_mapK]
 have : k ∈ (List.range (2 * t)).map (2000000 + ·) ↔ 2000000 ≤ k ∧ k < 2000000 + 2 * t := by
  simp only [List.mem_map, List.mem_range]
  exact ⟨fun ⟨a, h1, h2⟩ => by omega, fun h => ⟨k - 2000000, by omega, by omega⟩⟩
 by_cases c : 2000000 ≤ k ∧ k < 2000000 + 2 * t
 ·rw [if_pos c, if_pos (this.2 c)]
 ·rw [if_neg c, if_neg (fun h => c (this.1 h))]
theorem objsE_low {n t k : Nat} (h : k < 2000000) : optA (objsE n t) k = none := by rw [optA_objsE, if_neg (by omega)]
theorem delA_none {α : Type} {k : Nat} : ∀ {l : List (Nat × α)}, (∀ p ∈ l, p.1 ≠ k) → delA l k = l
 | [], _ => rfl
 | (j, x) :: l, h => by
  have h0 := h (j, x) List.mem_cons_self
  simp only [delA, beq_ne h0, cond_false]
  rw [delA_none fun p hp => h p (List.mem_cons_of_mem _ hp)]
theorem objsE_del {n t k : Nat} (h : k < 2000000) : delA (objsE n t) k = objsE n t := by
 refine delA_none fun p hp => ?_
 simp only [objsE, List.mem_map] at hp
 obtain ⟨i, _, rfl⟩ := hp
 show 2000000 + i ≠ k
 omega
/-- The Live box in work with ki sets of what is wanted at the beginning, ko at the end. -/
def lvN (f : Fnc) (v m ki ko : Nat) : Ob := .box [.bool f.machine, .str f.name, .sl (f.regs.map encRg), .sl (f.params.map encO), .sl (f.blocks.map encBk), ptP f.blocks, .hs 1012 v 0 m, .hs 1013 ki 0 ki, .hs 1014 ko 0 ko]
def stN (f : Fnc) (v : Nat) (rg : List (List AV)) (n ki ko t : Nat) : List (Nat × Ob) :=
 (3, .box [.ref 12 0]) :: (12, lvN f v n ki ko) :: (1012, .arr v 1 rg) :: (1013, .rarr ki (refsI ki)) :: (1014, .rarr ko (refsO ko)) :: objsE n t
theorem stN_eq (f : Fnc) (v : Nat) (rg : List (List AV)) (n ki ko t : Nat) {X : List AV} (eX : ptP f.blocks = .rp X) : stN f v rg n ki ko t =
  (3, .box [.ref 12 0]) :: (12, .box [.bool f.machine, .str f.name, .sl (f.regs.map encRg), .sl (f.params.map encO), .sl (f.blocks.map encBk), .rp X, .hs 1012 v 0 n, .hs 1013 ki 0 ki, .hs 1014 ko 0 ko]) :: (1012, .arr v 1 rg) :: (1013, .rarr ki (refsI ki)) :: (1014, .rarr ko (refsO ko)) :: objsE n t := by
 unfold stN lvN
 rw [eX]
theorem lvN_eq (f : Fnc) (v n ki ko : Nat) {X : List AV} (eX : ptP f.blocks = .rp X) : lvN f v n ki ko = .box [.bool f.machine, .str f.name, .sl (f.regs.map encRg), .sl (f.params.map encO), .sl (f.blocks.map encBk), .rp X, .hs 1012 v 0 n, .hs 1013 ki 0 ki, .hs 1014 ko 0 ko] := by
 unfold lvN
 rw [eX]
theorem refsI_len {k : Nat} : (refsI k).length = k := by simp [refsI]
theorem refsO_len {k : Nat} : (refsO k).length = k := by simp [refsO]
theorem refsI_snoc {k : Nat} : refsI (k + 1) = refsI k ++ [.ref (nmA k) 0] := by simp [refsI, List.range_succ]
theorem refsO_snoc {k : Nat} : refsO (k + 1) = refsO k ++ [.ref (nmA k + 2) 0] := by simp [refsO, List.range_succ]
theorem ren_refs {m : List (Nat × Nat)} {a : Nat → Nat} : ∀ {l : List Nat}, (∀ i ∈ l, optA m (a i) = some (a i)) → renL m (l.map fun i => .ref (a i) 0) = l.map fun i => .ref (a i) 0
 | [], _ => rfl
 | i :: l, h => by
  have := ren_refs (m := m) (a := a) (l := l) fun j hj => h j (List.mem_cons_of_mem _ hj)
  simp only [List.map_cons, renL, ren, h i List.mem_cons_self, this]
theorem renL_append {m : List (Nat × Nat)} : ∀ {a b : List AV}, renL m (a ++ b) = renL m a ++ renL m b
 | [], b => rfl
 | x :: a, b => by simp only [List.cons_append, renL, renL_append (a := a)]
theorem stN_hi {f : Fnc} {v : Nat} {rg : List (List AV)} {n ki ko t j : Nat} (h : 2000000 ≤ j) : optA (stN f v rg n ki ko t) j = if j < 2000000 + 2 * t then some (obE n j) else none := by
 unfold stN
 rw [optA_ne (by omega), optA_ne (by omega), optA_ne (by omega), optA_ne (by omega), optA_ne (by omega), optA_objsE]
 by_cases c : j < 2000000 + 2 * t
 ·rw [if_pos c, if_pos ⟨h, c⟩]
 ·rw [if_neg c, if_neg fun q => c q.2]
theorem stN_lo {f : Fnc} {v : Nat} {rg : List (List AV)} {n ki ko t j : Nat} (h : j < 2000000) (h3 : j ≠ 3) (h12 : j ≠ 12) (h1012 : j ≠ 1012) (h1013 : j ≠ 1013) (h1014 : j ≠ 1014) : optA (stN f v rg n ki ko t) j = none := by
 unfold stN
 rw [optA_ne h3, optA_ne h12, optA_ne h1012, optA_ne h1013, optA_ne h1014, optA_objsE, if_neg (by omega)]
/-- A new set of names d, d + 1000 gets its name; the array by which it was appended is forgotten. -/
theorem nameSet {x : St} {l : List (Nat × AV)} {f : Fnc} {v n ki ko ki' ko' t d : Nat} {rg : List (List AV)} {c13 c14 : List AV} (hd : d = 60 ∨ d = 75)
  (hob : ∀ j, j ≠ d → j ≠ d + 1000 → j ≠ d + 2000 → j ≠ 12 → j ≠ 1013 → j ≠ 1014 → x.ob j = optA (stN f v rg n ki ko t) j)
  (h12 : x.ob 12 = some (lvN f v n ki' ko')) (h13 : x.ob 1013 = some (.rarr ki' c13)) (h14 : x.ob 1014 = some (.rarr ko' c14))
  (e13 : renL (mN d t) c13 = refsI ki') (e14 : renL (mN d t) c14 = refsO ko')
  (hB : x.ob d = some (.box [.int .i64 (n : Int), .hs (d + 1000) 0 0 (nw n)])) (hW : x.ob (d + 1000) = some (wdS (noneB n)))
  (hreg : ∀ p ∈ l, ren (mN d t) (x.reg p.1) = p.2) : StpB 0 x ⟨l, stN f v rg n ki' ko' (t + 1)⟩ := by
 have hm := mN_ok (t := t) hd
 have a1 : StpB 0 x (x.mv (l.map (·.1)) (mN d t)) := .mv _ _ .refl hm (fun k h => absurd h (Nat.not_lt_zero _)) (fun k k' _ h => absurd h (Nat.not_lt_zero _))
 refine .same a1 ⟨fun i => (mv_reg hreg i).symm, fun j => (mv_ob hm (fun a b hab => ?_) (fun b hb => ?_) j).symm⟩
 ·have q3 : optA (mN d t) 3 = some 3 := by rw [optA_mN, if_neg (by omega), if_neg (by omega), if_pos (mem_ksN.2 (by omega))]
  have q12 : optA (mN d t) 12 = some 12 := by rw [optA_mN, if_neg (by omega), if_neg (by omega), if_pos (mem_ksN.2 (by omega))]
  have q1012 : optA (mN d t) 1012 = some 1012 := by rw [optA_mN, if_neg (by omega), if_neg (by omega), if_pos (mem_ksN.2 (by omega))]
  have q1013 : optA (mN d t) 1013 = some 1013 := by rw [optA_mN, if_neg (by omega), if_neg (by omega), if_pos (mem_ksN.2 (by omega))]
  have q1014 : optA (mN d t) 1014 = some 1014 := by rw [optA_mN, if_neg (by omega), if_neg (by omega), if_pos (mem_ksN.2 (by omega))]
  have qd : optA (mN d t) (d + 1000) = some (2000000 + 2 * t + 1) := by rw [optA_mN, if_neg (by omega), if_pos rfl]
  rw [optA_mN] at hab
  by_cases e : a = d
  ·rw [if_pos e] at hab
   have := Option.some.inj hab
   rw [← this, e, hB, stN_hi (by omega), if_pos (by omega)]
   have e2 : (2000000 + 2 * t) % 2 = 0 := by omega
   simp only [Option.map_some, obE, if_pos e2, bxS, renOb, renL, ren, qd]
  ·rw [if_neg e] at hab
   by_cases e1 : a = d + 1000
   ·rw [if_pos e1] at hab
    have := Option.some.inj hab
    rw [← this, e1, hW, stN_hi (by omega), if_pos (by omega)]
    have e2 : ¬ (2000000 + 2 * t + 1) % 2 = 0 := by omega
    simp only [Option.map_some, obE, if_neg e2, wdS, renOb]
   ·rw [if_neg e1] at hab
    by_cases e2 : a ∈ ksN t
    ·rw [if_pos e2] at hab
     have := Option.some.inj hab
     rw [← this]
     rcases mem_ksN.1 e2 with h | h | h | h | h | h
     ·rw [h, hob 3 (by omega) (by omega) (by omega) (by omega) (by omega) (by omega)]
      simp only [stN, optA_hit, Option.map_some, renOb, renL, ren, q12]
     ·rw [h, h12]
      simp only [stN, lvN, ptP, Option.map_some, renOb, renL, ren, q1012, q1013, q1014]
      rw [optA_ne (by omega), optA_hit]
     ·rw [h, hob 1012 (by omega) (by omega) (by omega) (by omega) (by omega) (by omega)]
      unfold stN
      rw [optA_ne (by omega), optA_ne (by omega), optA_hit, optA_ne (by omega), optA_ne (by omega), optA_hit]
      rfl
     ·rw [h, h13]
      unfold stN
      rw [optA_ne (by omega), optA_ne (by omega), optA_ne (by omega), optA_hit, ← e13]
      rfl
     ·rw [h, h14]
      unfold stN
      rw [optA_ne (by omega), optA_ne (by omega), optA_ne (by omega), optA_ne (by omega), optA_hit, ← e14]
      rfl
     ·rw [hob a (by omega) (by omega) (by omega) (by omega) (by omega) (by omega), stN_hi h.1, stN_hi h.1, if_pos h.2, if_pos (by omega)]
      have qa : a % 2 = 0 → optA (mN d t) (a + 1) = some (a + 1) := fun h0 => by
       rw [optA_mN, if_neg (by omega), if_neg (by omega), if_pos (mem_ksN.2 (by omega))]
      unfold obE
      split
      ·rename_i h0
       simp only [bxS, Option.map_some, renOb, renL, ren, qa h0]
      ·rfl
    ·rw [if_neg e2] at hab
     cases hab
 ·by_cases c : 2000000 ≤ b
  ·rw [stN_hi c]
   split
   ·rename_i c2
    exfalso
    by_cases c3 : b = 2000000 + 2 * t
    ·exact hb d (by rw [optA_mN, if_pos rfl, c3])
    ·by_cases c4 : b = 2000000 + 2 * t + 1
     ·exact hb (d + 1000) (by rw [optA_mN, if_neg (by omega), if_pos rfl, c4])
     ·exact hb b (by rw [optA_mN, if_neg (by omega), if_neg (by omega), if_pos (mem_ksN.2 (by omega))])
   ·rfl
  ·have hk : b ∈ ksN t → False := fun h => by
    have h' := mem_ksN.1 h
    exact hb b (by rw [optA_mN, if_neg (by omega), if_neg (by omega), if_pos h])
   have hk' : ¬ (b = 3 ∨ b = 12 ∨ b = 1012 ∨ b = 1013 ∨ b = 1014 ∨ (2000000 ≤ b ∧ b < 2000000 + 2 * t)) := fun h => hk (mem_ksN.2 h)
   exact stN_lo (by omega) (by omega) (by omega) (by omega) (by omega) (by omega)
/- Rounds of live.New, plain: how long they go on, and what holds then. -/
theorem zer_le : ∀ {a b : List Bool}, a.length = b.length → (∀ i, a.getD i false = true → b.getD i false = true) → b.count false ≤ a.count false ∧ (b ≠ a → b.count false < a.count false)
 | [], [], _, _ => ⟨Nat.le_refl _, fun h => absurd rfl h⟩
 | x :: a, y :: b, hl, h => by
  have ih := zer_le (a := a) (b := b) (by simpa using hl) fun i hi => by simpa using h (i + 1) (by simpa using hi)
  have h0 := h 0
  simp only [List.getD_cons_zero] at h0
  cases x <;> cases y
  ·simp only [List.count_cons_self]
   refine ⟨by omega, fun q => ?_⟩
   have := ih.2 fun e => q (by rw [e])
   omega
  ·have e1 : (true :: b).count false = b.count false := by simp [List.count_cons]
   rw [e1]
   simp only [List.count_cons_self]
   exact ⟨by omega, fun _ => by omega⟩
  ·exact absurd (h0 rfl) (by simp)
  ·have e1 : (true :: b).count false = b.count false := by simp [List.count_cons]
   have e2 : (true :: a).count false = a.count false := by simp [List.count_cons]
   rw [e1, e2]
   exact ⟨ih.1, fun q => ih.2 fun e => q (by rw [e])⟩
 | [], _ :: _, hl, _ => by simp at hl
 | _ :: _, [], hl, _ => by simp at hl
theorem orS_get {a b : List Bool} {i : Nat} : (orS a b).getD i false = (decide (i < a.length) && (a.getD i false || b.getD i false)) := two_get ..
theorem orS_left {a b : List Bool} {i : Nat} (h : a.getD i false = true) : (orS a b).getD i false = true := by
 rw [orS_get, h]
 have : i < a.length := by
  refine Decidable.byContradiction fun hn => ?_
  rw [List.getD_eq_getElem?_getD, List.getElem?_eq_none (by omega)] at h
  cases h
 simp [this]
theorem orS_right {a b : List Bool} {i : Nat} (hl : b.length ≤ a.length) (h : b.getD i false = true) : (orS a b).getD i false = true := by
 rw [orS_get, h]
 have : i < b.length := by
  refine Decidable.byContradiction fun hn => ?_
  rw [List.getD_eq_getElem?_getD, List.getElem?_eq_none (by omega)] at h
  cases h
 have : i < a.length := by omega
 simp [this]
theorem orS_iff {a b : List Bool} {i : Nat} (h : (orS a b).getD i false = true) : a.getD i false = true ∨ b.getD i false = true := by
 rw [orS_get, Bool.and_eq_true, Bool.or_eq_true] at h
 exact h.2
def zerL (L : List (List Bool × List Bool)) : Nat := (L.map fun x => x.1.count false).sum
theorem zerL_set : ∀ {L : List (List Bool × List Bool)} {b : Nat} {z w : List Bool × List Bool}, L[b]? = some z → zerL (L.set b w) + z.1.count false = zerL L + w.1.count false
 | [], b, z, w, h => by simp at h
 | x :: L, 0, z, w, h => by
  have : x = z := by simpa using h
  subst this
  simp only [List.set_cons_zero, zerL, List.map_cons, List.sum_cons]
  omega
 | x :: L, b + 1, z, w, h => by
  have ih := zerL_set (L := L) (b := b) (z := z) (w := w) (by simpa using h)
  simp only [List.set_cons_succ, zerL, List.map_cons, List.sum_cons] at ih ⊢
  omega
theorem at_get {f : Fnc} {u : List Int} {L : List (List Bool × List Bool)} (h : LvL f u L) {b : Nat} (hb : b < f.blocks.length) : L[b]? = some (insAt L b, outAt L b) := by
 have hb : b < L.length := by rw [h.len]; exact hb
 rw [insAt, outAt, List.getD_eq_getElem?_getD, List.getElem?_eq_getElem hb]
 rfl
theorem insAt_set {L : List (List Bool × List Bool)} {b s : Nat} {x y : List Bool} (hb : b < L.length) : insAt (L.set b (x, y)) s = if s = b then x else insAt L s := by
 unfold insAt
 rw [List.getD_eq_getElem?_getD, List.getD_eq_getElem?_getD]
 by_cases e : s = b
 ·rw [if_pos e, e, List.getElem?_set_self hb]
  rfl
 ·rw [if_neg e, List.getElem?_set_ne fun q => e q.symm]
theorem outAt_set {L : List (List Bool × List Bool)} {b s : Nat} {x y : List Bool} (hb : b < L.length) : outAt (L.set b (x, y)) s = if s = b then y else outAt L s := by
 unfold outAt
 rw [List.getD_eq_getElem?_getD, List.getD_eq_getElem?_getD]
 by_cases e : s = b
 ·rw [if_pos e, e, List.getElem?_set_self hb]
  rfl
 ·rw [if_neg e, List.getElem?_set_ne fun q => e q.symm]
section
variable {u : List Int} {f : Fnc} {S : List (List Nat)}
theorem stp_zer {b : Nat} {x : Bool × List (List Bool × List Bool)} (h : LvL f u x.2) (hb : b < f.blocks.length) : zerL (stp1 u f S b x).2 ≤ zerL x.2 ∧ ((stp1 u f S b x).1 = true → x.1 = true ∨ zerL (stp1 u f S b x).2 < zerL x.2) := by
 have hg := at_get h hb
 have hz := zerL_set (w := (inN u (blkAt f b) (rowAt S b) x.2 b, outK x.2 (rowAt S b) b)) hg
 have hle := zer_le (a := insAt x.2 b) (b := inN u (blkAt f b) (rowAt S b) x.2 b) (two_len _ _ _).symm fun i hi => orS_left hi
 simp only [stp1, stepL] at hz ⊢
 refine ⟨by have := hle.1; omega, fun hc => ?_⟩
 rw [Bool.or_eq_true] at hc
 rcases hc with hc | hc
 ·exact .inl hc
 ·right
  have hc : inN u (blkAt f b) (rowAt S b) x.2 b ≠ insAt x.2 b := by
   intro e
   rw [stepC, e] at hc
   simp at hc
  have := hle.2 hc
  omega
theorem rnd_zer {x : Bool × List (List Bool × List Bool)} (h : LvL f u x.2) : ∀ {j : Nat}, j ≤ f.blocks.length → zerL (rndJ u f S x j).2 ≤ zerL x.2 ∧ ((rndJ u f S x j).1 = true → x.1 = true ∨ zerL (rndJ u f S x j).2 < zerL x.2)
 | 0, _ => ⟨Nat.le_refl _, fun h => .inl h⟩
 | j + 1, hj => by
  have ih := rnd_zer h (j := j) (by omega)
  have hs := stp_zer (S := S) (b := f.blocks.length - 1 - j) (h.rnd (S := S) (j := j) (by omega)) (by omega)
  have e : rndJ u f S x (j + 1) = stp1 u f S (f.blocks.length - 1 - j) (rndJ u f S x j) := rfl
  rw [← e] at hs
  refine ⟨by omega, fun hc => ?_⟩
  rcases hs.2 hc with h1 | h1
  ·rcases ih.2 h1 with h2 | h2
   ·exact .inl h2
   ·right; omega
  ·right; omega
def rnd1 (u : List Int) (f : Fnc) (S : List (List Nat)) (L : List (List Bool × List Bool)) : Bool × List (List Bool × List Bool) := rndJ u f S (false, L) f.blocks.length
def finL (u : List Int) (f : Fnc) (S : List (List Nat)) : Nat → List (List Bool × List Bool) → List (List Bool × List Bool)
 | 0, L => L
 | k + 1, L => if (rnd1 u f S L).1 = true then finL u f S k (rnd1 u f S L).2 else (rnd1 u f S L).2
theorem rnd1_L {L : List (List Bool × List Bool)} (h : LvL f u L) : LvL f u (rnd1 u f S L).2 := LvL.rnd (x := (false, L)) h (Nat.le_refl _)
theorem rnd1_zer {L : List (List Bool × List Bool)} (h : LvL f u L) (hc : (rnd1 u f S L).1 = true) : zerL (rnd1 u f S L).2 < zerL L := by
 rcases (rnd_zer (S := S) (x := (false, L)) h (Nat.le_refl _)).2 hc with h | h
 ·cases h
 ·exact h
/-- What holds when a round changes nothing. -/
structure Closed (u : List Int) (f : Fnc) (S : List (List Nat)) (L : List (List Bool × List Bool)) : Prop where
 out : ∀ b, b < f.blocks.length → ∀ s ∈ rowAt S b, ∀ i : Nat, (insAt L s).getD i false = true → (outAt L b).getD i false = true
 ins : ∀ b, b < f.blocks.length → ∀ i : Nat, (backS u (blkAt f b).code (outAt L b)).getD i false = true → (insAt L b).getD i false = true
theorem outK_mono {f : Fnc} {u : List Int} {L : List (List Bool × List Bool)} (h : LvL f u L) {b : Nat} (hb : b < f.blocks.length) : ∀ {r : List Nat}, (∀ s ∈ r, s < f.blocks.length) → (∀ i : Nat, (outAt L b).getD i false = true → (outK L r b).getD i false = true) ∧ ∀ s ∈ r, ∀ i : Nat, (insAt L s).getD i false = true → (outK L r b).getD i false = true := by
 have h0 := outAt_len h hb
 intro r hr
 unfold outK
 revert h0
 generalize outAt L b = o
 intro h0
 induction r generalizing o with
 | nil => exact ⟨fun i h => h, fun s hs => by cases hs⟩
 | cons s l ih =>
  have hs := insAt_len h (hr s List.mem_cons_self)
  have := ih (fun t ht => hr t (List.mem_cons_of_mem _ ht)) (orS o (insAt L s)) ((two_len _ _ _).trans h0)
  refine ⟨fun i hi => this.1 i (orS_left hi), fun t ht i hi => ?_⟩
  rcases List.mem_cons.1 ht with e | ht
  ·rw [e] at hi
   exact this.1 i (orS_right (by omega) hi)
  ·exact this.2 t ht i hi
theorem outK_iff {L : List (List Bool × List Bool)} {b i : Nat} : ∀ {r : List Nat}, (outK L r b).getD i false = true → (outAt L b).getD i false = true ∨ ∃ s ∈ r, (insAt L s).getD i false = true := by
 intro r
 unfold outK
 generalize outAt L b = o
 intro h
 induction r generalizing o with
 | nil => exact .inl h
 | cons s l ih =>
  rcases ih _ h with h | ⟨t, ht, h⟩
  ·rcases orS_iff h with h | h
   ·exact .inl h
   ·exact .inr ⟨s, List.mem_cons_self, h⟩
  ·exact .inr ⟨t, List.mem_cons_of_mem _ ht, h⟩
theorem rowAt_lt (hI : LvIn f S) {b : Nat} (hb : b < f.blocks.length) : ∀ s ∈ rowAt S b, s < f.blocks.length := by
 have hbS : b < S.length := by rw [hI.len]; exact hb
 have hS : S[b]? = some (rowAt S b) := by rw [rowAt, List.getD_eq_getElem?_getD, List.getElem?_eq_getElem hbS]; rfl
 exact (hI.row _ (List.mem_of_getElem? hS)).2
theorem rnd_closed (hI : LvIn f S) {L : List (List Bool × List Bool)} (h : LvL f u L) : ∀ {j : Nat}, j ≤ f.blocks.length → (rndJ u f S (false, L) j).1 = false →
  (∀ s, insAt (rndJ u f S (false, L) j).2 s = insAt L s) ∧ ∀ b, b < f.blocks.length → f.blocks.length - j ≤ b →
   (∀ s ∈ rowAt S b, ∀ i : Nat, (insAt L s).getD i false = true → (outAt (rndJ u f S (false, L) j).2 b).getD i false = true) ∧
   (∀ i : Nat, (backS u (blkAt f b).code (outAt (rndJ u f S (false, L) j).2 b)).getD i false = true → (insAt L b).getD i false = true)
 | 0, _, _ => ⟨fun s => rfl, fun b h1 h2 => by omega⟩
 | j + 1, hj, hc => by
  have hLj := LvL.rnd (S := S) (x := (false, L)) h (j := j) (by omega)
  have e : rndJ u f S (false, L) (j + 1) = stp1 u f S (f.blocks.length - 1 - j) (rndJ u f S (false, L) j) := rfl
  have ih := rnd_closed hI h (j := j) (by omega)
  rw [e] at hc ⊢
  generalize rndJ u f S (false, L) j = x at hLj ih hc ⊢
  generalize hb : f.blocks.length - 1 - j = b at hc ⊢
  have hbn : b < f.blocks.length := by omega
  have hbL : b < x.2.length := by rw [hLj.len]; exact hbn
  simp only [stp1, Bool.or_eq_false_iff] at hc
  have ⟨ih1, ih2⟩ := ih hc.1
  have hN : inN u (blkAt f b) (rowAt S b) x.2 b = insAt x.2 b := by
   have := hc.2
   rw [stepC] at this
   simpa using this
  have hi : ∀ s, insAt (stepL u (blkAt f b) (rowAt S b) x.2 b) s = insAt x.2 s := by
   intro s
   rw [stepL, insAt_set hbL]
   split
   ·rename_i e; rw [hN, e]
   ·rfl
  have ho : ∀ s, outAt (stepL u (blkAt f b) (rowAt S b) x.2 b) s = if s = b then outK x.2 (rowAt S b) b else outAt x.2 s := by
   intro s
   rw [stepL, outAt_set hbL]
  refine ⟨fun s => (hi s).trans (ih1 s), fun c hcn hcj => ?_⟩
  simp only [stp1, ho]
  by_cases ec : c = b
  ·subst ec
   have hmo := outK_mono hLj hbn (rowAt_lt hI hbn)
   rw [if_pos rfl]
   refine ⟨fun s hs i hsi => hmo.2 s hs i (by rw [ih1]; exact hsi), fun i hbi => ?_⟩
   rw [← ih1, ← hN, inN]
   refine orS_right ?_ hbi
   rw [backS_len, outK_len hLj hbn, insAt_len hLj hbn]
   exact Nat.le_refl _
  ·rw [if_neg ec]
   exact ih2 c hcn (by omega)
theorem rnd1_closed (hI : LvIn f S) {L : List (List Bool × List Bool)} (h : LvL f u L) (hc : (rnd1 u f S L).1 = false) : Closed u f S (rnd1 u f S L).2 := by
 have ⟨h1, h2⟩ := rnd_closed hI h (Nat.le_refl _) hc
 have h1 : ∀ s, insAt (rnd1 u f S L).2 s = insAt L s := h1
 exact ⟨fun b hb s hs i hi => (h2 b hb (by omega)).1 s hs i (by rw [← h1]; exact hi), fun b hb i hi => by rw [h1]; exact (h2 b hb (by omega)).2 i hi⟩
theorem rnd_inv {Q : List (List Bool × List Bool) → Prop} (hQ : ∀ L b, LvL f u L → b < f.blocks.length → Q L → Q (stepL u (blkAt f b) (rowAt S b) L b)) {x : Bool × List (List Bool × List Bool)} (h : LvL f u x.2) (h0 : Q x.2) : ∀ {j : Nat}, j ≤ f.blocks.length → Q (rndJ u f S x j).2
 | 0, _ => h0
 | j + 1, hj => hQ _ _ (h.rnd (S := S) (by omega)) (by omega) (rnd_inv hQ h h0 (j := j) (by omega))
theorem finL_spec (hI : LvIn f S) {Q : List (List Bool × List Bool) → Prop} (hQ : ∀ L b, LvL f u L → b < f.blocks.length → Q L → Q (stepL u (blkAt f b) (rowAt S b) L b)) : ∀ {k : Nat} {L : List (List Bool × List Bool)}, LvL f u L → Q L → zerL L < k → LvL f u (finL u f S k L) ∧ Q (finL u f S k L) ∧ Closed u f S (finL u f S k L)
 | 0, L, _, _, hk => by omega
 | k + 1, L, hL, h0, hk => by
  have hq : Q (rnd1 u f S L).2 := rnd_inv hQ (x := (false, L)) hL h0 (Nat.le_refl _)
  simp only [finL]
  split
  ·rename_i hc
   have := rnd1_zer hL hc
   exact finL_spec hI hQ (rnd1_L hL) hq (by omega)
  ·rename_i hc
   exact ⟨rnd1_L hL, hq, rnd1_closed hI hL (by simpa using hc)⟩
end
/- live.New's objects, when they are written no more. -/
theorem StpB.trans {b : Nat} {a x c : St} (h : StpB b a x) (k : StpB b x c) : StpB b a c := by
 induction k with
 | refl => exact h
 | same _ hs ih => exact ih.same hs
 | drop _ h1 h2 ih => exact ih.drop h1 h2
 | mv rs m _ h1 h2 h3 ih => exact ih.mv rs m h1 h2 h3
 | frz k _ h1 h2 h3 ih => exact ih.frz k h1 h2 h3
def refsF (c : Nat) : Nat → List (List Bool × List Bool) → List AV
 | _, [] => []
 | i, _ :: r => .ref (nmA i + c) 0 :: refsF c (i + 1) r
theorem refsF_eq {c : Nat} : ∀ {L : List (List Bool × List Bool)} {i : Nat}, refsF c i L = (List.range' i L.length).map fun j => .ref (nmA j + c) 0
 | [], i => rfl
 | x :: r, i => by
  rw [refsF, refsF_eq (L := r), List.length_cons, List.range'_succ]
  rfl
theorem refsI_F {L : List (List Bool × List Bool)} : refsI L.length = refsF 0 0 L := by rw [refsF_eq, refsI, List.range_eq_range']; rfl
theorem refsO_F {L : List (List Bool × List Bool)} : refsO L.length = refsF 2 0 L := by rw [refsF_eq, refsO, List.range_eq_range']
theorem fz_refsF {c k : Nat} {ob : Ob} : ∀ {L : List (List Bool × List Bool)} {i : Nat}, (∀ j, i ≤ j → nmA j + c ≠ k) → fzL k ob (refsF c i L) = refsF c i L
 | [], i, h => rfl
 | x :: r, i, h => by
  simp only [refsF, fzL, fz]
  rw [beq_ne (h i (Nat.le_refl _)), fz_refsF fun j hj => h j (by omega)]
  rfl
theorem fz_objsL {n k : Nat} {ob : Ob} : ∀ {L : List (List Bool × List Bool)} {i : Nat}, k < nmA i → fzO k ob (objsL n i L) = objsL n i L
 | [], i, h => rfl
 | (a, b) :: r, i, h => by
  have ih := fz_objsL (n := n) (ob := ob) (L := r) (i := i + 1) (k := k) (by unfold nmA at *; omega)
  simp only [objsL, fzO]
  rw [beq_ne (show nmA i ≠ k by omega), beq_ne (show nmA i + 1 ≠ k by omega), beq_ne (show nmA i + 2 ≠ k by omega), beq_ne (show nmA i + 3 ≠ k by omega)]
  simp only [cond_false, bxS, wdS, fzOb, fzL, fz]
  rw [beq_ne (show nmA i + 1 ≠ k by omega), beq_ne (show nmA i + 2 + 1 ≠ k by omega), ih]
  rfl
theorem fz_setA {n k : Nat} {ob : Ob} : ∀ {ss : List (List Bool)} {l : List AV}, fzL k ob ((ss.map fun s => setA n s) ++ l) = (ss.map fun s => setA n s) ++ fzL k ob l
 | [], l => rfl
 | s :: ss, l => by
  have ih := fz_setA (n := n) (k := k) (ob := ob) (ss := ss) (l := l)
  simp only [List.map_cons, List.cons_append, fzL]
  rw [ih]
  rfl
theorem setA_pure {n : Nat} : ∀ {ss : List (List Bool)}, isPL (ss.map fun s => setA n s) = true
 | [] => rfl
 | s :: ss => by simp only [List.map_cons, isPL, setA, isP, Bool.true_and]; exact setA_pure
/-- The Live while it is frozen: the sets of d are done. -/
def stZ (X : AV) (f : Fnc) (v vi vo : Nat) (rg : List (List AV)) (n k : Nat) (d L : List (List Bool × List Bool)) : St :=
 ⟨[(2, .ref 12 0)], (3, .box [.ref 12 0]) :: (12, .box [.bool f.machine, .str f.name, .sl (f.regs.map encRg), .sl (f.params.map encO), .sl (f.blocks.map encBk), X, .hs 1012 v 0 n, .hs 1013 vi 0 k, .hs 1014 vo 0 k]) :: (1012, .arr v 1 rg) ::
  (1013, .rarr vi ((d.map (·.1)).map (fun s => setA n s) ++ refsF 0 d.length L)) :: (1014, .rarr vo ((d.map (·.2)).map (fun s => setA n s) ++ refsF 2 d.length L)) :: objsL n d.length L⟩
theorem frz_one {X : List AV} {f : Fnc} {v vi vo n k : Nat} {rg : List (List AV)} {d r : List (List Bool × List Bool)} {a b : List Bool} (ha : a.length = n) (hb : b.length = n) :
  StpB 0 (stZ (.rp X) f v vi vo rg n k d ((a, b) :: r)) (stZ (.rp X) f v vi vo rg n k (d ++ [(a, b)]) r) := by
 have hn : nmA (d.length + 1) = nmA d.length + 4 := by unfold nmA; omega
 have hm : 2000000 ≤ nmA d.length := by unfold nmA; omega
 have ea : ((encWs a).drop 0).take (nw n) = encWs a := by rw [List.drop_zero, ← ha]; exact encWs_take a
 have eb : ((encWs b).drop 0).take (nw n) = encWs b := by rw [List.drop_zero, ← hb]; exact encWs_take b
 have eda : ((d ++ [(a, b)]).map (·.1)).map (fun s => setA n s) = (d.map (·.1)).map (fun s => setA n s) ++ [setA n a] := by simp
 have edb : ((d ++ [(a, b)]).map (·.2)).map (fun s => setA n s) = (d.map (·.2)).map (fun s => setA n s) ++ [setA n b] := by simp
 have hq : ∀ j, d.length + 1 ≤ j → nmA d.length + 4 ≤ nmA j := fun j hj => by unfold nmA; omega
 generalize hN : nmA d.length = N at hn hm hq
 have hdl : (d ++ [(a, b)]).length = d.length + 1 := by simp
 have f1 : ∀ kk ob, kk < N + 4 → fzO kk ob (objsL n (d.length + 1) r) = objsL n (d.length + 1) r := fun kk ob h => fz_objsL (by omega)
 have f2 : ∀ kk ob, kk < N + 4 → fzL kk ob (refsF 0 (d.length + 1) r) = refsF 0 (d.length + 1) r := fun kk ob h => fz_refsF fun j hj => by have := hq j hj; omega
 have f3 : ∀ kk ob, kk < N + 4 → fzL kk ob (refsF 2 (d.length + 1) r) = refsF 2 (d.length + 1) r := fun kk ob h => fz_refsF fun j hj => by have := hq j hj; omega
 unfold stZ
 rw [eda, edb, hdl]
 simp only [refsF, objsL, hN, Nat.add_zero]
 have g1 : ∀ kk ob l, fzL kk ob ((d.map (·.1)).map (fun s => setA n s) ++ l) = (d.map (·.1)).map (fun s => setA n s) ++ fzL kk ob l := fun kk ob l => fz_setA
 have g2 : ∀ kk ob l, fzL kk ob ((d.map (·.2)).map (fun s => setA n s) ++ l) = (d.map (·.2)).map (fun s => setA n s) ++ fzL kk ob l := fun kk ob l => fz_setA
 generalize (d.map (·.1)).map (fun s => setA n s) = DA at *
 generalize (d.map (·.2)).map (fun s => setA n s) = DB at *
 generalize refsF 0 (d.length + 1) r = RA at *
 generalize refsF 2 (d.length + 1) r = RB at *
 generalize objsL n (d.length + 1) r = OL at *
 have hz : ∀ kk ob A B O, 2000000 ≤ kk → (⟨[(2, .ref 12 0)], (3, .box [.ref 12 0]) :: (12, .box [.bool f.machine, .str f.name, .sl (f.regs.map encRg), .sl (f.params.map encO), .sl (f.blocks.map encBk), .rp X, .hs 1012 v 0 n, .hs 1013 vi 0 k, .hs 1014 vo 0 k]) :: (1012, .arr v 1 rg) ::
  (1013, .rarr vi A) :: (1014, .rarr vo B) :: O⟩ : St).frz kk ob = ⟨[(2, .ref 12 0)], (3, .box [.ref 12 0]) :: (12, .box [.bool f.machine, .str f.name, .sl (f.regs.map encRg), .sl (f.params.map encO), .sl (f.blocks.map encBk), .rp X, .hs 1012 v 0 n, .hs 1013 vi 0 k, .hs 1014 vo 0 k]) :: (1012, .arr v 1 rg) ::
  (1013, .rarr vi (fzL kk ob A)) :: (1014, .rarr vo (fzL kk ob B)) :: fzO kk ob O⟩ := by
  intro kk ob A B O hk
  simp only [St.frz, fzR, fzO, fz, fzOb, fzL]
  rw [beq_ne (show 3 ≠ kk by omega), beq_ne (show 12 ≠ kk by omega), beq_ne (show 1012 ≠ kk by omega), beq_ne (show 1013 ≠ kk by omega), beq_ne (show 1014 ≠ kk by omega)]
  rfl
 have hl : ∀ kk A B O, 2000000 ≤ kk → (⟨[(2, .ref 12 0)], (3, .box [.ref 12 0]) :: (12, .box [.bool f.machine, .str f.name, .sl (f.regs.map encRg), .sl (f.params.map encO), .sl (f.blocks.map encBk), .rp X, .hs 1012 v 0 n, .hs 1013 vi 0 k, .hs 1014 vo 0 k]) :: (1012, .arr v 1 rg) ::
  (1013, .rarr vi A) :: (1014, .rarr vo B) :: O⟩ : St).ob kk = optA O kk := by
  intro kk A B O hk
  show optA _ kk = _
  rw [optA_ne (by omega), optA_ne (by omega), optA_ne (by omega), optA_ne (by omega), optA_ne (by omega)]
 have b1 : Nat.beq N (N + 1) = false := beq_ne (by omega)
 have b2 : Nat.beq (N + 2) (N + 1) = false := beq_ne (by omega)
 have b3 : Nat.beq (N + 3) (N + 1) = false := beq_ne (by omega)
 have b4 : Nat.beq (N + 2 + 1) (N + 1) = false := beq_ne (by omega)
 have b5 : Nat.beq (N + 2) N = false := beq_ne (by omega)
 have b6 : Nat.beq (N + 3) N = false := beq_ne (by omega)
 have b7 : Nat.beq (N + 2 + 1) N = false := beq_ne (by omega)
 have b8 : Nat.beq (N + 2) (N + 3) = false := beq_ne (by omega)
 have b9 : Nat.beq (N + 2 + 1) (N + 3) = true := Nat.beq_refl _
 have bx : ∀ j, Nat.beq j j = true := Nat.beq_refl
 refine StpB.trans (.frz (N + 1) .refl ((hl _ _ _ _ (by omega)).trans (by rw [optA_ne (by omega), optA_hit])) rfl (Nat.zero_le _)) ?_
 rw [hz _ _ _ _ _ (by omega), g1, g2]
 simp only [fzO, fzL, fz, fzOb, bxS, wdS, b1, b2, b3, b4, bx, cond_true, cond_false, f1 (N + 1) _ (by omega), f2 (N + 1) _ (by omega), f3 (N + 1) _ (by omega), ea, if_true]
 refine StpB.trans (.frz N .refl ((hl _ _ _ _ (by omega)).trans (by rw [optA_hit])) rfl (Nat.zero_le _)) ?_
 rw [hz _ _ _ _ _ (by omega), g1, g2]
 simp only [fzO, fzL, fz, fzOb, b5, b6, b7, bx, cond_true, cond_false, f1 N _ (by omega), f2 N _ (by omega), f3 N _ (by omega), List.drop_zero]
 refine StpB.trans (.frz (N + 3) .refl ((hl _ _ _ _ (by omega)).trans (by rw [optA_ne (by omega), optA_hit])) rfl (Nat.zero_le _)) ?_
 rw [hz _ _ _ _ _ (by omega), g1, g2]
 simp only [fzO, fzL, fz, fzOb, b8, b9, bx, cond_true, cond_false, f1 (N + 3) _ (by omega), f2 (N + 3) _ (by omega), f3 (N + 3) _ (by omega), eb, if_true]
 refine StpB.trans (.frz (N + 2) .refl ((hl _ _ _ _ (by omega)).trans (by rw [optA_hit])) rfl (Nat.zero_le _)) ?_
 rw [hz _ _ _ _ _ (by omega), g1, g2]
 simp only [fzO, fzL, fz, fzOb, bx, cond_true, cond_false, f1 (N + 2) _ (by omega), f2 (N + 2) _ (by omega), f3 (N + 2) _ (by omega), List.drop_zero]
 refine .drop .refl (fun i => .inl rfl) fun j => ?_
 simp [setA]
theorem frz_sets {X : List AV} {f : Fnc} {v vi vo n k : Nat} {rg : List (List AV)} : ∀ {L d : List (List Bool × List Bool)}, (∀ x ∈ L, x.1.length = n ∧ x.2.length = n) → StpB 0 (stZ (.rp X) f v vi vo rg n k d L) (stZ (.rp X) f v vi vo rg n k (d ++ L) [])
 | [], d, _ => by rw [List.append_nil]; exact .refl
 | (a, b) :: r, d, h => by
  have h0 := h (a, b) List.mem_cons_self
  have := StpB.trans (frz_one (X := X) (f := f) (v := v) (vi := vi) (vo := vo) (k := k) (rg := rg) (d := d) (r := r) h0.1 h0.2) (frz_sets (L := r) (d := d ++ [(a, b)]) fun x hx => h x (List.mem_cons_of_mem _ hx))
  rwa [List.append_assoc] at this
theorem frz_live {X : List AV} {f : Fnc} {v vi vo : Nat} {u : List Int} {rg : List (List AV)} {L : List (List Bool × List Bool)} (hX : ptP f.blocks = .rp X) (hrg : rg.take u.length = u.map encN) (hL : ∀ x ∈ L, x.1.length = u.length ∧ x.2.length = u.length) :
  StpB 0 (stZ (.rp X) f v vi vo rg u.length L.length [] L) ⟨[(2, lvP f u (L.map (·.1)) (L.map (·.2)))], [(3, .box [lvP f u (L.map (·.1)) (L.map (·.2))])]⟩ := by
 refine StpB.trans (frz_sets hL) ?_
 rw [List.nil_append]
 have e1 := setA_enc (n := u.length) (ss := L.map (·.1)) (by intro s hs; have ⟨x, hx, e⟩ := List.mem_map.1 hs; rw [← e]; exact (hL x hx).1)
 have e2 := setA_enc (n := u.length) (ss := L.map (·.2)) (by intro s hs; have ⟨x, hx, e⟩ := List.mem_map.1 hs; rw [← e]; exact (hL x hx).2)
 have t1 : (((L.map (·.1)).map fun s => setA u.length s).drop 0).take L.length = (L.map (·.1)).map fun s => setA u.length s := by rw [List.drop_zero]; exact List.take_of_length_le (by simp)
 have t2 : (((L.map (·.2)).map fun s => setA u.length s).drop 0).take L.length = (L.map (·.2)).map fun s => setA u.length s := by rw [List.drop_zero]; exact List.take_of_length_le (by simp)
 have p1 := setA_pure (n := u.length) (ss := L.map (·.1))
 have p2 := setA_pure (n := u.length) (ss := L.map (·.2))
 have z1 : ∀ kk ob, fzL kk ob ((L.map (·.1)).map fun s => setA u.length s) = (L.map (·.1)).map fun s => setA u.length s := fun kk ob => by
  have := fz_setA (n := u.length) (k := kk) (ob := ob) (ss := L.map (·.1)) (l := [])
  simpa only [List.append_nil, fzL] using this
 have z2 : ∀ kk ob, fzL kk ob ((L.map (·.2)).map fun s => setA u.length s) = (L.map (·.2)).map fun s => setA u.length s := fun kk ob => by
  have := fz_setA (n := u.length) (k := kk) (ob := ob) (ss := L.map (·.2)) (l := [])
  simpa only [List.append_nil, fzL] using this
 unfold lvP
 rw [hX]
 simp only [stZ, refsF, objsL, List.append_nil]
 generalize (L.map (·.1)).map (fun s => setA u.length s) = DA at *
 generalize (L.map (·.2)).map (fun s => setA u.length s) = DB at *
 refine StpB.trans (.frz 1013 (ob := .rarr vi DA) .refl rfl p1 (Nat.zero_le _)) ?_
 simp only [St.frz, fzR, fzO, fzOb, fzL, fz, z1, z2, t1, e1, Nat.beq_refl, cond_true, cond_false, if_true, beq_ne (show 3 ≠ 1013 by omega), beq_ne (show 12 ≠ 1013 by omega), beq_ne (show 1012 ≠ 1013 by omega), beq_ne (show 1014 ≠ 1013 by omega)]
 refine StpB.trans (.frz 1014 (ob := .rarr vo DB) .refl rfl p2 (Nat.zero_le _)) ?_
 simp only [St.frz, fzR, fzO, fzOb, fzL, fz, z1, z2, t2, e2, Nat.beq_refl, cond_true, cond_false, if_true, beq_ne (show 3 ≠ 1014 by omega), beq_ne (show 12 ≠ 1014 by omega), beq_ne (show 1012 ≠ 1014 by omega)]
 refine StpB.trans (.frz 1012 (ob := .arr v 1 rg) .refl rfl rfl (Nat.zero_le _)) ?_
 simp only [St.frz, fzR, fzO, fzOb, fzL, fz, hrg, List.drop_zero, Nat.beq_refl, cond_true, cond_false, if_true, beq_ne (show 3 ≠ 1012 by omega), beq_ne (show 12 ≠ 1012 by omega)]
 refine StpB.trans (.frz 12 .refl rfl rfl (Nat.zero_le _)) ?_
 simp only [St.frz, fzR, fzO, fzOb, fzL, fz, List.drop_zero, Nat.beq_refl, cond_true, cond_false, beq_ne (show 3 ≠ 12 by omega)]
 exact .refl
theorem objsE_fz {n t kk : Nat} {ob : Ob} (h : kk < 2000000) : fzO kk ob (objsE n t) = objsE n t := by
 have : ∀ (l : List Nat), fzO kk ob (l.map fun i => (2000000 + i, obE n (2000000 + i))) = l.map fun i => (2000000 + i, obE n (2000000 + i)) := by
  intro l
  induction l with
  | nil => rfl
  | cons i l ih =>
   simp only [List.map_cons, fzO, beq_ne (show 2000000 + i ≠ kk by omega), cond_false, ih]
   congr 2
   unfold obE
   split
   ·simp only [bxS, fzOb, fzL, fz, beq_ne (show 2000000 + i + 1 ≠ kk by omega), cond_false]
   ·rfl
 exact this _
theorem refsI_fz {k kk : Nat} {ob : Ob} (h : kk < 2000000) : fzL kk ob (refsI k) = refsI k := by
 unfold refsI
 exact fzB_ref fun i _ => by unfold nmA; omega
theorem refsO_fz {k kk : Nat} {ob : Ob} (h : kk < 2000000) : fzL kk ob (refsO k) = refsO k := by
 unfold refsO
 exact fzB_ref (a := fun i => nmA i + 2) fun i _ => by unfold nmA; omega
/-! The function's virtual registers, sorted, each once. -/
theorem cpt_mem {x : Int} : ∀ {l : List Int}, x ∈ cpt l ↔ x ∈ l
 | [] => Iff.rfl
 | [y] => Iff.rfl
 | y :: z :: l => by
  have ih := cpt_mem (x := x) (l := z :: l)
  rw [cpt]
  split
  ·rename_i h
   rw [ih, h]
   simp
  ·rw [List.mem_cons, ih, List.mem_cons (a := x) (b := y)]
theorem cpt_lt : ∀ {l : List Int}, l.Pairwise (· ≤ ·) → (cpt l).Pairwise (· < ·)
 | [], _ => .nil
 | [y], _ => by simp [cpt]
 | y :: z :: l, h => by
  rw [List.pairwise_cons] at h
  have ih := cpt_lt h.2
  rw [cpt]
  split
  ·exact ih
  ·rename_i hne
   refine List.pairwise_cons.2 ⟨fun x hx => ?_, ih⟩
   have hx := cpt_mem.1 hx
   have h1 := h.1 z List.mem_cons_self
   rcases List.mem_cons.1 hx with e | hx
   ·rw [e]; omega
   ·have := (List.pairwise_cons.1 h.2).1 x hx
    omega
def idsR (f : Fnc) : List Int := f.regs.map (·.id)
def idsU (f : Fnc) : List Int := cpt ((idsR f).mergeSort leI)
theorem idsU_lt (f : Fnc) : (idsU f).Pairwise (· < ·) := by
 refine cpt_lt ?_
 have := List.pairwise_mergeSort (le := leI) (fun a b c h1 h2 => by simp only [leI, decide_eq_true_eq] at *; omega) (fun a b => by simp only [leI, Bool.or_eq_true, decide_eq_true_eq]; omega) (idsR f)
 exact this.imp fun h => by simpa [leI] using h
theorem idsU_mem {f : Fnc} {x : Int} : x ∈ idsU f ↔ ∃ g ∈ f.regs, g.id = x := by
 rw [idsU, cpt_mem, (List.mergeSort_perm _ _).mem_iff, idsR, List.mem_map]
theorem srt_of_lt {u : List Int} (h : u.Pairwise (· < ·)) : Srt u := by
 intro i j hij hj
 have := List.pairwise_iff_getElem.1 h i j (by omega) hj hij
 rw [List.getD_eq_getElem?_getD, List.getD_eq_getElem?_getD, List.getElem?_eq_getElem hj, List.getElem?_eq_getElem (by omega)]
 simp only [Option.getD_some]
 omega
theorem idsU_srt {f : Fnc} : Srt (idsU f) := srt_of_lt (idsU_lt f)
/-- The state of the rounds without the variable that says whether something changed. -/
def stM (f : Fnc) (v vi vo : Nat) (rg : List (List AV)) (u : List Int) (L : List (List Bool × List Bool)) : List (Nat × Ob) :=
 (3, .box [.ref 12 0]) :: (12, lvB f v u.length vi vo L.length) :: (1012, .arr v 1 rg) :: (1013, .rarr vi (refsI L.length)) :: (1014, .rarr vo (refsO L.length)) :: objsL u.length 0 L
theorem stM_L {f : Fnc} {v vi vo : Nat} {rg : List (List AV)} {u : List Int} {ch : Bool} {L : List (List Bool × List Bool)} {j : Nat} : optA (stM f v vi vo rg u L) j = if j = 7 then none else optA (stL f v vi vo rg u ch L) j := by
 unfold stM stL
 by_cases e : j = 7
 ·rw [if_pos e, e, optA_ne (by omega), optA_ne (by omega), optA_ne (by omega), optA_ne (by omega), optA_ne (by omega), ob_low (by omega)]
 ·rw [if_neg e]
  by_cases e3 : j = 3
  ·rw [e3, optA_hit, optA_hit]
  ·rw [optA_ne e3, optA_ne e3, optA_ne e]
theorem stL_eq (f : Fnc) (v vi vo : Nat) (rg : List (List AV)) (u : List Int) (ch : Bool) (L : List (List Bool × List Bool)) {X : List AV} (eX : ptP f.blocks = .rp X) : stL f v vi vo rg u ch L =
  (3, .box [.ref 12 0]) :: (7, .pbox [.bool ch]) :: (12, .box [.bool f.machine, .str f.name, .sl (f.regs.map encRg), .sl (f.params.map encO), .sl (f.blocks.map encBk), .rp X, .hs 1012 v 0 u.length, .hs 1013 vi 0 L.length, .hs 1014 vo 0 L.length]) :: (1012, .arr v 1 rg) :: (1013, .rarr vi (refsI L.length)) :: (1014, .rarr vo (refsO L.length)) :: objsL u.length 0 L := by
 unfold stL lvB
 rw [eX]
theorem stM_eq (f : Fnc) (v vi vo : Nat) (rg : List (List AV)) (u : List Int) (L : List (List Bool × List Bool)) {X : List AV} (eX : ptP f.blocks = .rp X) : stM f v vi vo rg u L =
  (3, .box [.ref 12 0]) :: (12, .box [.bool f.machine, .str f.name, .sl (f.regs.map encRg), .sl (f.params.map encO), .sl (f.blocks.map encBk), .rp X, .hs 1012 v 0 u.length, .hs 1013 vi 0 L.length, .hs 1014 vo 0 L.length]) :: (1012, .arr v 1 rg) :: (1013, .rarr vi (refsI L.length)) :: (1014, .rarr vo (refsO L.length)) :: objsL u.length 0 L := by
 unfold stM lvB
 rw [eX]
theorem dropCh {x : St} {rs : List (Nat × AV)} {f : Fnc} {v vi vo : Nat} {rg : List (List AV)} {u : List Int} {ch : Bool} {L : List (List Bool × List Bool)} (hl : L.length < 1000000) (hob : ∀ j, x.ob j = optA (stL f v vi vo rg u ch L) j)
  (hreg : ∀ p ∈ rs, x.reg p.1 = p.2) (hrf : ∀ p ∈ rs, ∀ ob, fz 7 ob p.2 = p.2) : StpB 0 x ⟨rs, stM f v vi vo rg u L⟩ := by
 have a1 : StpB 0 x ⟨rs, x.objs⟩ := .drop .refl (reg_sub hreg) fun j => rfl
 have b1 : (⟨rs, x.objs⟩ : St).ob 7 = some (.pbox [.bool ch]) := by
  show x.ob 7 = _
  rw [hob]
  rfl
 have a2 := a1.frz 7 b1 rfl (Nat.zero_le _)
 refine a2.same ⟨fun i => ?_, fun j => ?_⟩
 ·show getA .dead (fzR _ _ rs) i = getA .dead rs i
  rw [fzR_reg]
  have hd : ∀ (l : List (Nat × AV)), (∀ p ∈ l, ∀ ob, fz 7 ob p.2 = p.2) → ∀ ob, fz 7 ob (getA .dead l i) = getA .dead l i := by
   intro l
   induction l with
   | nil => intro _ ob; simp [getA, fz]
   | cons p l ih =>
    intro h ob
    obtain ⟨a, v⟩ := p
    simp only [getA]
    cases Nat.beq a i with
    | true => exact h (a, v) List.mem_cons_self ob
    | false => exact ih (fun p hp => h p (List.mem_cons_of_mem _ hp)) ob
  exact hd rs hrf _
 ·show optA (fzO _ _ x.objs) j = optA _ j
  rw [fzO_ob, stM_L (ch := ch)]
  by_cases e1 : j = 7
  ·rw [if_pos e1, if_pos e1]
  ·rw [if_neg e1, if_neg e1]
   have : optA x.objs j = _ := hob j
   rw [this]
   cases ho : optA (stL f v vi vo rg u ch L) j with
   | none => rfl
   | some o => simp only [Option.map_some]; rw [fz_stL hl ho (.inr rfl)]
theorem objsL_del {n k i : Nat} {L : List (List Bool × List Bool)} (h : k < 2000000) : delA (objsL n i L) k = objsL n i L := by
 induction L generalizing i with
 | nil => rfl
 | cons x r ih =>
  obtain ⟨a, b⟩ := x
  simp only [objsL, delA]
  rw [beq_ne (by unfold nmA; omega), beq_ne (by unfold nmA; omega), beq_ne (by unfold nmA; omega), beq_ne (by unfold nmA; omega), ih]
  rfl
theorem objs_empty {n k j : Nat} : optA (objsL n 0 (List.replicate k (noneB n, noneB n))) j = optA (objsE n (2 * k)) j := by
 rw [optA_objsL, optA_objsE, List.getElem?_replicate]
 unfold nmA
 by_cases c : 2000000 ≤ j
 ·rw [if_pos (by omega)]
  by_cases c2 : j < 2000000 + 2 * (2 * k)
  ·rw [if_pos (by omega), if_pos (by omega)]
   simp only [Option.map_some, pickS, obE]
   by_cases m0 : j % 4 = 0
   ·rw [if_pos m0, if_pos (by omega)]
   ·rw [if_neg m0]
    by_cases m1 : j % 4 = 1
    ·rw [if_pos m1, if_neg (by omega)]
    ·rw [if_neg m1]
     by_cases m2 : j % 4 = 2
     ·rw [if_pos m2, if_pos (by omega)]
     ·rw [if_neg m2, if_neg (by omega)]
  ·rw [if_neg (by omega), if_neg (by omega)]
   rfl
 ·rw [if_neg (by omega), if_neg (by omega)]
/- live.New. -/
def emptyL (f : Fnc) : List (List Bool × List Bool) := List.replicate f.blocks.length (noneB (idsU f).length, noneB (idsU f).length)
def lastL (f : Fnc) : List (List Bool × List Bool) := finL (idsU f) f (succF f.blocks) (zerL (emptyL f) + 1) (emptyL f)
structure NewOk (f : Fnc) : Prop where
 inn : LvIn f (succF f.blocks)
 pt : PtOk f.blocks
 rl : f.regs.length < 1000000
 lab : ∀ b ∈ f.blocks, b.code.length ≤ 9223372036854775807 ∧ ∀ i ∈ b.code, i.labels.length ≤ 9223372036854775807
theorem C7 (f : Fnc) (h : NewOk f) : Ctr Tryd.prog 7 [.agg (encFn f)] [] (ret [lvP f (idsU f) ((lastL f).map (·.1)) ((lastL f).map (·.2))]) := by
 have hpt := C20 f (by have := h.pt.len; omega) h.pt.sum
 have hgr := C24 f (by have := h.pt.len; omega) h.lab
 apply ctr_b A7_ok rfl (Nat.le_of_ble_eq_true rfl)
 unfold A7
 simp only [initL, Nat.reduceAdd]
 have ⟨X, eX⟩ : ∃ X, ptP f.blocks = .rp X := ⟨_, rfl⟩
 rw [eX] at hpt
 unfold encFn at hpt hgr ⊢
 simp -implicitDefEqProofs (maxSteps := 2000000) (disch := omega) only [↓reduceIte, go_sem, Int.reduceToNat, Nat.reduceAdd, Nat.reduceLeDiff, Nat.reduceEqDiff, Nat.reduceSub, Nat.reduceMul, reduceCtorEq]
 refine callL hpt ?_
 simp -implicitDefEqProofs (maxSteps := 2000000) (disch := omega) only [↓reduceIte, go_sem, Int.reduceToNat, Nat.reduceAdd, Nat.reduceLeDiff, Nat.reduceEqDiff, Nat.reduceSub, Nat.reduceMul, reduceCtorEq]
 refine accL (by kernel_rfl) ?_
 simp -implicitDefEqProofs (maxSteps := 2000000) (disch := omega) only [↓reduceIte, go_sem, Int.reduceToNat, Nat.reduceAdd, Nat.reduceLeDiff, Nat.reduceEqDiff, Nat.reduceSub, Nat.reduceMul, reduceCtorEq]
 refine loopL (σ := Nat) (fun s => ⟨[(1, .rp [.bool f.machine, .str f.name, .sl (f.regs.map encRg), .sl (f.params.map encO), .sl (f.blocks.map encBk)]), (3, .ref 3 0), (14, .sl (f.regs.map encRg)), (15, .int .i64 (f.regs.length : Int)), (16, .int .i64 (s : Int))],
   [(3, .box [.ref 12 0]), (12, .box [.bool f.machine, .str f.name, .sl (f.regs.map encRg), .sl (f.params.map encO), .sl (f.blocks.map encBk), .rp X, .hs 1012 s 0 s, .hs 1013 0 0 0, .hs 1014 0 0 0]), (1012, .arr s 1 (((idsR f).take s).map encN)), (1013, .rarr 0 []), (1014, .rarr 0 [])]⟩)
  (fun s => s ≤ f.regs.length) (fun s => f.regs.length - s) 0 (by simp -implicitDefEqProofs (maxSteps := 2000000) (disch := omega) only [↓reduceIte, go_sem, Int.reduceToNat, Nat.reduceAdd, Nat.reduceLeDiff, Nat.reduceEqDiff, Nat.reduceSub, Nat.reduceMul, reduceCtorEq]; rfl) (Nat.zero_le _) ?_
 intro s hs
 have hil : (idsR f).length = f.regs.length := by simp [idsR]
 simp -implicitDefEqProofs (maxSteps := 2000000) (disch := omega) only [↓reduceIte, go_sem, Int.reduceToNat, Nat.reduceAdd, Nat.reduceLeDiff, Nat.reduceEqDiff, Nat.reduceSub, Nat.reduceMul, reduceCtorEq]
 refine ifD (fun c => ?_) (fun c => ?_)
 ·have hb : f.regs[s]? = some f.regs[s] := List.getElem?_eq_getElem (by omega)
  have htk : (idsR f).take (s + 1) = (idsR f).take s ++ [f.regs[s].id] := by
   rw [List.take_add_one, idsR, List.getElem?_map, hb]
   rfl
  have hln : ((idsR f).take s).length = s := by rw [List.length_take]; omega
  generalize (idsR f).take s = FS at htk hln ⊢
  generalize f.regs[s] = g at hb htk
  have hcp : ((s + 1 : Nat) : Int) * ((8 : Nat) : Int) ≤ 70368744177664 := by have := h.rl; omega
  simp -implicitDefEqProofs (maxSteps := 2000000) (disch := omega) only [↓reduceIte, go_sem, Int.reduceToNat, Nat.reduceAdd, Nat.reduceLeDiff, Nat.reduceEqDiff, Nat.reduceSub, Nat.reduceMul, reduceCtorEq, hb, encRg, hcp, hln]
  refine accL (by kernel_rfl) ?_
  simp -implicitDefEqProofs (maxSteps := 2000000) (disch := omega) only [↓reduceIte, go_sem, Int.reduceToNat, Nat.reduceAdd, Nat.reduceLeDiff, Nat.reduceEqDiff, Nat.reduceSub, Nat.reduceMul, reduceCtorEq]
  exact ⟨s + 1, by simp only [htk]; simp [encN], by omega, by omega⟩
 ·simp -implicitDefEqProofs (maxSteps := 2000000) (disch := omega) only [↓reduceIte, go_sem, Int.reduceToNat, Nat.reduceAdd, Nat.reduceLeDiff, Nat.reduceEqDiff, Nat.reduceSub, Nat.reduceMul, reduceCtorEq]
  have hse : s = f.regs.length := by omega
  have htk : (idsR f).take s = idsR f := List.take_of_length_le (by omega)
  rw [htk]
  have hsr := sortC s (idsR f) (by have := h.rl; omega)
  have hse2 : s = (idsR f).length := by omega
  rw [← hse2] at hsr
  have hzl : ((idsR f).mergeSort leI).length = s := by rw [List.length_mergeSort]; omega
  have hcp := C22 s ((idsR f).mergeSort leI) (by have := h.rl; omega)
  rw [hzl] at hcp
  refine callD hsr ?_
  simp -implicitDefEqProofs (maxSteps := 2000000) (disch := omega) only [↓reduceIte, go_sem, Int.reduceToNat, Nat.reduceAdd, Nat.reduceLeDiff, Nat.reduceEqDiff, Nat.reduceSub, Nat.reduceMul, reduceCtorEq]
  refine callD hcp ?_
  simp -implicitDefEqProofs (maxSteps := 2000000) (disch := omega) only [↓reduceIte, go_sem, Int.reduceToNat, Nat.reduceAdd, Nat.reduceLeDiff, Nat.reduceEqDiff, Nat.reduceSub, Nat.reduceMul, reduceCtorEq]
  refine accL (by kernel_rfl) ?_
  simp -implicitDefEqProofs (maxSteps := 2000000) (disch := omega) only [↓reduceIte, go_sem, Int.reduceToNat, Nat.reduceAdd, Nat.reduceLeDiff, Nat.reduceEqDiff, Nat.reduceSub, Nat.reduceMul, reduceCtorEq]
  have hu : cpt ((idsR f).mergeSort leI) = idsU f := rfl
  rw [hu]
  have hul : (idsU f).length ≤ s := by
   rw [← hu, ← hzl]
   exact cpt_len
  have hnw := New' ((idsU f).length : Int) (by have := h.rl; omega)
  rw [show (((idsU f).length : Nat) : Int).toNat = (idsU f).length from rfl] at hnw
  have hrg : (cpR ((idsR f).mergeSort leI)).take (idsU f).length = (idsU f).map encN := by
   rw [cpR, hu, List.take_append_of_le_length (by simp)]
   exact List.take_of_length_le (by simp)
  generalize cpR ((idsR f).mergeSort leI) = rg at hrg ⊢
  refine loopB (σ := Nat) (fun k => ⟨[(1, .rp [.bool f.machine, .str f.name, .sl (f.regs.map encRg), .sl (f.params.map encO), .sl (f.blocks.map encBk)]), (3, .ref 3 0), (47, .int .i64 (f.blocks.length : Int)), (48, .int .i64 (k : Int))],
    stN f s rg (idsU f).length k k (2 * k)⟩) (fun k => k ≤ f.blocks.length) (fun k => f.blocks.length - k) 0 ?_ (Nat.zero_le _) ?_
  ·refine .drop .refl (reg_sub ?_) fun k => ?_
   ·intro p hp
    simp only [List.mem_cons, List.not_mem_nil, or_false] at hp
    rcases hp with rfl | rfl | rfl | rfl <;> (simp -implicitDefEqProofs (maxSteps := 2000000) (disch := omega) only [↓reduceIte, go_sem, Int.reduceToNat, Nat.reduceAdd, Nat.reduceLeDiff, Nat.reduceEqDiff, Nat.reduceSub, Nat.reduceMul, reduceCtorEq]; try rfl)
   ·show optA _ k = optA _ k
    unfold stN lvN
    rw [eX]
    by_cases k3 : k = 3
    ·rw [k3]; rfl
    by_cases k12 : k = 12
    ·rw [k12]; rfl
    by_cases k1012 : k = 1012
    ·rw [k1012]; rfl
    rw [optA_ne k3, optA_ne k12, optA_ne k1012, optA_ne k12, optA_ne k1012, optA_ne k3]
    rfl
  ·intro k hk
   have hkl : k < 1000000 := by have := h.pt.len; omega
   rw [stN_eq f s rg (idsU f).length k k (2 * k) eX]
   simp -implicitDefEqProofs (maxSteps := 2000000) (disch := omega) only [↓reduceIte, go_sem, Int.reduceToNat, Nat.reduceAdd, Nat.reduceLeDiff, Nat.reduceEqDiff, Nat.reduceSub, Nat.reduceMul, reduceCtorEq, objsE_low, objsE_del]
   refine ifD (fun c => ?_) (fun c => ?_)
   ·simp -implicitDefEqProofs (maxSteps := 2000000) (disch := omega) only [↓reduceIte, go_sem, Int.reduceToNat, Nat.reduceAdd, Nat.reduceLeDiff, Nat.reduceEqDiff, Nat.reduceSub, Nat.reduceMul, reduceCtorEq, objsE_low, objsE_del]
    refine callD hnw ?_
    simp -implicitDefEqProofs (maxSteps := 2000000) (disch := omega) only [↓reduceIte, go_sem, Int.reduceToNat, Nat.reduceAdd, Nat.reduceLeDiff, Nat.reduceEqDiff, Nat.reduceSub, Nat.reduceMul, reduceCtorEq, objsE_low, objsE_del]
    have hcp : ((k + 1 : Nat) : Int) * ((8 : Nat) : Int) ≤ 70368744177664 := by omega
    refine ckL ⟨refsI_len.symm, hcp⟩ ?_
    simp -implicitDefEqProofs (maxSteps := 2000000) (disch := omega) only [↓reduceIte, go_sem, Int.reduceToNat, Nat.reduceAdd, Nat.reduceLeDiff, Nat.reduceEqDiff, Nat.reduceSub, Nat.reduceMul, reduceCtorEq, objsE_low, objsE_del]
    refine accL (by kernel_rfl) ?_
    simp -implicitDefEqProofs (maxSteps := 2000000) (disch := omega) only [↓reduceIte, go_sem, Int.reduceToNat, Nat.reduceAdd, Nat.reduceLeDiff, Nat.reduceEqDiff, Nat.reduceSub, Nat.reduceMul, reduceCtorEq, objsE_low, objsE_del]
    refine dynB (nameSet (d := 60) (t := (2 * k)) (n := (idsU f).length) (f := f) (v := s) (rg := rg) (ki := k) (ko := k) (ki' := (k + 1)) (ko' := k) (l := [(1, .rp [.bool f.machine, .str f.name, .sl (f.regs.map encRg), .sl (f.params.map encO), .sl (f.blocks.map encBk)]), (3, .ref 3 0), (47, .int .i64 (f.blocks.length : Int)), (48, .int .i64 (k : Int))]) (by omega) ?_ ?_ rfl rfl ?_ ?_ ?_ rfl ?_) ?_
    ·intro j n1 n2 n3 n4 n5 n6
     rw [stN_eq f s rg (idsU f).length _ _ _ eX]
     show optA _ j = optA _ j
     rw [optA_ne n4, optA_ne n5, optA_ne n3, optA_ne n2, optA_ne n1]
     by_cases j3 : j = 3
     ·rw [j3]; rfl
     by_cases j1012 : j = 1012
     ·rw [j1012]; rfl
     rw [optA_ne j3, optA_ne j1012, optA_ne n6, optA_ne j3, optA_ne n4, optA_ne j1012, optA_ne n5, optA_ne n6]
    ·rw [lvN_eq f s (idsU f).length _ _ eX]
     rfl
    ·show renL _ (refsI k ++ [.ref 60 0]) = _
     rw [renL_append, refsI_snoc, refsI, ren_refs]
     ·simp only [renL, ren, optA_mN, if_pos]
      rw [show 2000000 + 2 * (2 * k) = nmA k by unfold nmA; omega]
     ·intro i hi
      have := List.mem_range.1 hi
      rw [optA_mN, if_neg (by unfold nmA; omega), if_neg (by unfold nmA; omega), if_pos (mem_ksN.2 (by unfold nmA; omega))]
    ·show renL _ (refsO k) = _
     rw [refsO, ren_refs (a := fun i => nmA i + 2)]
     intro i hi
     have := List.mem_range.1 hi
     rw [optA_mN, if_neg (by unfold nmA; omega), if_neg (by unfold nmA; omega), if_pos (mem_ksN.2 (by unfold nmA; omega))]
    ·rfl
    ·intro p hp
     simp only [List.mem_cons, List.not_mem_nil, or_false] at hp
     rcases hp with rfl | rfl | rfl | rfl <;> (simp -implicitDefEqProofs (maxSteps := 2000000) (disch := omega) only [↓reduceIte, go_sem, Int.reduceToNat, Nat.reduceAdd, Nat.reduceLeDiff, Nat.reduceEqDiff, Nat.reduceSub, Nat.reduceMul, reduceCtorEq]; try rfl)
    rw [stN_eq f s rg (idsU f).length (k + 1) k (2 * k + 1) eX]
    simp -implicitDefEqProofs (maxSteps := 2000000) (disch := omega) only [↓reduceIte, go_sem, Int.reduceToNat, Nat.reduceAdd, Nat.reduceLeDiff, Nat.reduceEqDiff, Nat.reduceSub, Nat.reduceMul, reduceCtorEq, objsE_low, objsE_del]
    refine callD hnw ?_
    simp -implicitDefEqProofs (maxSteps := 2000000) (disch := omega) only [↓reduceIte, go_sem, Int.reduceToNat, Nat.reduceAdd, Nat.reduceLeDiff, Nat.reduceEqDiff, Nat.reduceSub, Nat.reduceMul, reduceCtorEq, objsE_low, objsE_del]
    refine ckL ⟨refsO_len.symm, hcp⟩ ?_
    simp -implicitDefEqProofs (maxSteps := 2000000) (disch := omega) only [↓reduceIte, go_sem, Int.reduceToNat, Nat.reduceAdd, Nat.reduceLeDiff, Nat.reduceEqDiff, Nat.reduceSub, Nat.reduceMul, reduceCtorEq, objsE_low, objsE_del]
    refine accL (by kernel_rfl) ?_
    simp -implicitDefEqProofs (maxSteps := 2000000) (disch := omega) only [↓reduceIte, go_sem, Int.reduceToNat, Nat.reduceAdd, Nat.reduceLeDiff, Nat.reduceEqDiff, Nat.reduceSub, Nat.reduceMul, reduceCtorEq, objsE_low, objsE_del]
    refine dynB (nameSet (d := 75) (t := (2 * k + 1)) (n := (idsU f).length) (f := f) (v := s) (rg := rg) (ki := (k + 1)) (ko := k) (ki' := (k + 1)) (ko' := (k + 1)) (l := [(1, .rp [.bool f.machine, .str f.name, .sl (f.regs.map encRg), .sl (f.params.map encO), .sl (f.blocks.map encBk)]), (3, .ref 3 0), (47, .int .i64 (f.blocks.length : Int)), (48, .int .i64 (k : Int))]) (by omega) ?_ ?_ rfl rfl ?_ ?_ ?_ rfl ?_) ?_
    ·intro j n1 n2 n3 n4 n5 n6
     rw [stN_eq f s rg (idsU f).length _ _ _ eX]
     show optA _ j = optA _ j
     rw [optA_ne n4, optA_ne n6, optA_ne n3, optA_ne n2, optA_ne n1]
     by_cases j3 : j = 3
     ·rw [j3]; rfl
     by_cases j1012 : j = 1012
     ·rw [j1012]; rfl
     rw [optA_ne j3, optA_ne j1012, optA_ne n5, optA_ne j3, optA_ne n4, optA_ne j1012, optA_ne n5, optA_ne n6]
    ·rw [lvN_eq f s (idsU f).length _ _ eX]
     rfl
    ·show renL _ (refsI (k + 1)) = _
     rw [refsI, ren_refs]
     intro i hi
     have := List.mem_range.1 hi
     rw [optA_mN, if_neg (by unfold nmA; omega), if_neg (by unfold nmA; omega), if_pos (mem_ksN.2 (by unfold nmA; omega))]
    ·show renL _ (refsO k ++ [.ref 75 0]) = _
     rw [renL_append, refsO_snoc, refsO, ren_refs (a := fun i => nmA i + 2)]
     ·simp only [renL, ren, optA_mN, if_pos]
      rw [show 2000000 + 2 * (2 * k + 1) = nmA k + 2 by unfold nmA; omega]
     ·intro i hi
      have := List.mem_range.1 hi
      rw [optA_mN, if_neg (by unfold nmA; omega), if_neg (by unfold nmA; omega), if_pos (mem_ksN.2 (by unfold nmA; omega))]
    ·rfl
    ·intro p hp
     simp only [List.mem_cons, List.not_mem_nil, or_false] at hp
     rcases hp with rfl | rfl | rfl | rfl <;> (simp -implicitDefEqProofs (maxSteps := 2000000) (disch := omega) only [↓reduceIte, go_sem, Int.reduceToNat, Nat.reduceAdd, Nat.reduceLeDiff, Nat.reduceEqDiff, Nat.reduceSub, Nat.reduceMul, reduceCtorEq]; try rfl)
    rw [show 2 * k + 1 + 1 = 2 * (k + 1) by omega]
    simp -implicitDefEqProofs (maxSteps := 2000000) (disch := omega) only [↓reduceIte, go_sem, Int.reduceToNat, Nat.reduceAdd, Nat.reduceLeDiff, Nat.reduceEqDiff, Nat.reduceSub, Nat.reduceMul, reduceCtorEq]
    refine ⟨k + 1, .drop .refl (reg_sub ?_) fun j => rfl, by omega, by omega⟩
    intro p hp
    simp only [List.mem_cons, List.not_mem_nil, or_false] at hp
    rcases hp with rfl | rfl | rfl | rfl <;> (simp -implicitDefEqProofs (maxSteps := 2000000) (disch := omega) only [↓reduceIte, go_sem, Int.reduceToNat, Nat.reduceAdd, Nat.reduceLeDiff, Nat.reduceEqDiff, Nat.reduceSub, Nat.reduceMul, reduceCtorEq]; try rfl)
   ·have hkn : k = f.blocks.length := by omega
    simp -implicitDefEqProofs (maxSteps := 2000000) (disch := omega) only [↓reduceIte, go_sem, Int.reduceToNat, Nat.reduceAdd, Nat.reduceLeDiff, Nat.reduceEqDiff, Nat.reduceSub, Nat.reduceMul, reduceCtorEq, objsE_low, objsE_del]
    have hgl : ∀ S P, ∃ G, grP S P = .rp G := fun S P => ⟨_, rfl⟩
    refine callL hgr ?_
    have ⟨G, eG⟩ := hgl (succF f.blocks) (predF (succF f.blocks))
    rw [eG]
    simp -implicitDefEqProofs (maxSteps := 2000000) (disch := omega) only [↓reduceIte, go_sem, Int.reduceToNat, Nat.reduceAdd, Nat.reduceLeDiff, Nat.reduceEqDiff, Nat.reduceSub, Nat.reduceMul, reduceCtorEq, objsE_low, objsE_del, objsE_fz, refsI_fz, refsO_fz]
    have hEl : (emptyL f).length = k := by rw [emptyL, List.length_replicate, hkn]
    have hE0 : LvL f (idsU f) (emptyL f) := ⟨by rw [emptyL, List.length_replicate], fun x hx => by
     have := List.eq_of_mem_replicate hx
     rw [this]
     exact ⟨noneB_len, noneB_len⟩⟩
    have hR := (C25 f s k k rg (idsU f) false · (succF f.blocks) (predF (succF f.blocks)) h.inn · (by have := h.rl; omega) hrg idsU_srt)
    have hL := fun L (hL : LvL f (idsU f) L) => hR L hL
    clear hR
    rw [eG] at hL
    refine loopB (σ := Bool × Nat × List (List Bool × List Bool)) (fun x => ⟨[(1, .rp [.bool f.machine, .str f.name, .sl (f.regs.map encRg), .sl (f.params.map encO), .sl (f.blocks.map encBk)]), (3, .ref 3 0), (6, .rp [.rp G]), (7, .ref 7 0)],
     stL f s k k rg (idsU f) x.1 x.2.2⟩) (fun x => LvL f (idsU f) x.2.2 ∧ (x.1 = true → finL (idsU f) f (succF f.blocks) x.2.1 x.2.2 = lastL f ∧ zerL x.2.2 < x.2.1) ∧ (x.1 = false → x.2.2 = lastL f)) (fun x => if x.1 = true then zerL x.2.2 + 1 else 0) (true, zerL (emptyL f) + 1, emptyL f) ?_ ⟨hE0, fun _ => ⟨rfl, Nat.lt_succ_self _⟩, fun e => by cases e⟩ ?_
    ·refine .drop .refl (reg_sub ?_) fun j => ?_
     ·intro p hp
      simp only [List.mem_cons, List.not_mem_nil, or_false] at hp
      rcases hp with rfl | rfl | rfl | rfl <;> (simp -implicitDefEqProofs (maxSteps := 2000000) (disch := omega) only [↓reduceIte, go_sem, Int.reduceToNat, Nat.reduceAdd, Nat.reduceLeDiff, Nat.reduceEqDiff, Nat.reduceSub, Nat.reduceMul, reduceCtorEq]; try rfl)
     ·show optA _ j = optA _ j
      unfold stL lvB
      rw [eX, hEl]
      by_cases j3 : j = 3
      ·rw [j3]; rfl
      by_cases j7 : j = 7
      ·rw [j7]; rfl
      rw [optA_ne j3, optA_ne j7, optA_ne j7, optA_ne j3]
      simp only [optA]
      rw [emptyL, objs_empty, ← hkn]
    ·intro x hx
     obtain ⟨ch, fu, L⟩ := x
     have hx : LvL f (idsU f) L ∧ (ch = true → finL (idsU f) f (succF f.blocks) fu L = lastL f ∧ zerL L < fu) ∧ (ch = false → L = lastL f) := hx
     have hbk := hL L hx.1
     have hz := fun e => rnd1_zer (S := succF f.blocks) hx.1 e
     have hl1 := rnd1_L (S := succF f.blocks) hx.1
     have hr1 : rndJ (idsU f) f (succF f.blocks) (false, L) f.blocks.length = rnd1 (idsU f) f (succF f.blocks) L := rfl
     rw [hr1] at hbk
     have hfin : finL (idsU f) f (succF f.blocks) (fu + 1) L = if (rnd1 (idsU f) f (succF f.blocks) L).1 = true then finL (idsU f) f (succF f.blocks) fu (rnd1 (idsU f) f (succF f.blocks) L).2 else (rnd1 (idsU f) f (succF f.blocks) L).2 := rfl
     have hfin0 : fu ≠ 0 → finL (idsU f) f (succF f.blocks) fu L = if (rnd1 (idsU f) f (succF f.blocks) L).1 = true then finL (idsU f) f (succF f.blocks) (fu - 1) (rnd1 (idsU f) f (succF f.blocks) L).2 else (rnd1 (idsU f) f (succF f.blocks) L).2 := fun h => by
      cases fu with
      | zero => exact absurd rfl h
      | succ n => rfl
     clear hfin
     have hbk := CtrG.out (res := []) hbk fun r o h => ⟨h.1, funext h.2⟩
     have hbk := CtrG.same (objs2 := (7, .pbox [.bool false]) :: stM f s k k rg (idsU f) L) hbk (funext fun j => by
      by_cases e : j = 7
      ·rw [e]; rfl
      ·rw [optA_ne e, stM_L (ch := false), if_neg e])
     rw [stM_eq f s k k rg (idsU f) L eX] at hbk
     rw [stL_eq f s k k rg (idsU f) ch L eX]
     generalize rnd1 (idsU f) f (succF f.blocks) L = y at hbk hz hl1 hfin0
     simp -implicitDefEqProofs (maxSteps := 2000000) (disch := omega) only [↓reduceIte, go_sem, Int.reduceToNat, Nat.reduceAdd, Nat.reduceLeDiff, Nat.reduceEqDiff, Nat.reduceSub, Nat.reduceMul, reduceCtorEq, ob_low, objsL_del]
     refine ifB (fun e => ?_) (fun e => ?_)
     ·simp -implicitDefEqProofs (maxSteps := 2000000) (disch := omega) only [↓reduceIte, go_sem, Int.reduceToNat, Nat.reduceAdd, Nat.reduceLeDiff, Nat.reduceEqDiff, Nat.reduceSub, Nat.reduceMul, reduceCtorEq, ob_low, objsL_del]
      refine callG hbk ?_
      have e7 : optA (stL f s k k rg (idsU f) y.1 y.2) 7 = some (.pbox [.bool y.1]) := rfl
      simp -implicitDefEqProofs (maxSteps := 2000000) (disch := omega) only [↓reduceIte, go_sem, Int.reduceToNat, Nat.reduceAdd, Nat.reduceLeDiff, Nat.reduceEqDiff, Nat.reduceSub, Nat.reduceMul, reduceCtorEq, e7]
      have hyl : y.2.length < 1000000 := by rw [hl1.len]; have := h.pt.len; omega
      refine dynB (dropCh (rs := [(1, .rp [.bool f.machine, .str f.name, .sl (f.regs.map encRg), .sl (f.params.map encO), .sl (f.blocks.map encBk)]), (3, .ref 3 0), (6, .rp [.rp G]), (88, .bool y.1)]) hyl (fun j => rfl) ?_ ?_) ?_
      ·intro p hp
       simp only [List.mem_cons, List.not_mem_nil, or_false] at hp
       rcases hp with rfl | rfl | rfl | rfl <;> (simp -implicitDefEqProofs (maxSteps := 2000000) (disch := omega) only [↓reduceIte, go_sem, Int.reduceToNat, Nat.reduceAdd, Nat.reduceLeDiff, Nat.reduceEqDiff, Nat.reduceSub, Nat.reduceMul, reduceCtorEq]; try rfl)
      ·intro p hp ob
       simp only [List.mem_cons, List.not_mem_nil, or_false] at hp
       rcases hp with rfl | rfl | rfl | rfl <;> rfl
      ·rw [stM_eq f s k k rg (idsU f) y.2 eX]
       simp -implicitDefEqProofs (maxSteps := 2000000) (disch := omega) only [↓reduceIte, go_sem, Int.reduceToNat, Nat.reduceAdd, Nat.reduceLeDiff, Nat.reduceEqDiff, Nat.reduceSub, Nat.reduceMul, reduceCtorEq, ob_low, objsL_del]
       refine ⟨(y.1, fu - 1, y.2), .drop .refl (reg_sub ?_) fun j => ?_, ⟨hl1, fun q => ?_, fun q => ?_⟩, ?_⟩
       ·intro p hp
        simp only [List.mem_cons, List.not_mem_nil, or_false] at hp
        rcases hp with rfl | rfl | rfl | rfl <;> (simp -implicitDefEqProofs (maxSteps := 2000000) (disch := omega) only [↓reduceIte, go_sem, Int.reduceToNat, Nat.reduceAdd, Nat.reduceLeDiff, Nat.reduceEqDiff, Nat.reduceSub, Nat.reduceMul, reduceCtorEq]; try rfl)
       ·rw [stL_eq f s k k rg (idsU f) y.1 y.2 eX]
        show optA _ j = optA _ j
        by_cases j7 : j = 7
        ·rw [j7]; rfl
        ·by_cases j3 : j = 3
         ·rw [j3]; rfl
         ·rw [optA_ne j3, optA_ne j7, optA_ne j7, optA_ne j3]
       ·have h1 := hx.2.1 e
        have h2 := hz q
        have h3 := hfin0 (by omega)
        have q' : y.1 = true := q
        rw [if_pos q'] at h3
        refine ⟨h3.symm.trans h1.1, ?_⟩
        show zerL y.2 < fu - 1
        omega
       ·have h1 := hx.2.1 e
        have h3 := hfin0 (by omega)
        have q' : ¬ y.1 = true := by
         have : y.1 = false := q
         rw [this]
         decide
        rw [if_neg q'] at h3
        exact h3.symm.trans h1.1
       ·show (if y.1 = true then zerL y.2 + 1 else 0) < if ch = true then zerL L + 1 else 0
        rw [if_pos e]
        split
        ·rename_i q
         have := hz q
         omega
        ·omega
     ·simp -implicitDefEqProofs (maxSteps := 2000000) (disch := omega) only [↓reduceIte, go_sem, Int.reduceToNat, Nat.reduceAdd, Nat.reduceLeDiff, Nat.reduceEqDiff, Nat.reduceSub, Nat.reduceMul, reduceCtorEq, ob_low, objsL_del]
      have hLf := hx.2.2 e
      have hLl : L.length = k := by rw [hx.1.len, hkn]
      refine dynB (StpB.trans (dropCh (rs := [(2, .ref 12 0)]) (f := f) (v := s) (vi := k) (vo := k) (rg := rg) (u := idsU f) (ch := ch) (L := L) (by omega) (fun j => ?_) ?_ ?_) (StpB.trans (StpB.drop (y := stZ (.rp X) f s k k rg (idsU f).length L.length [] L) .refl (fun i => .inl rfl) fun j => ?_) (frz_live (X := X) (f := f) (v := s) (vi := k) (vo := k) (rg := rg) (u := idsU f) (L := L) eX hrg hx.1.all))) ?_
      ·rw [stL_eq f s k k rg (idsU f) ch L eX]
       rfl
      ·intro p hp
       simp only [List.mem_cons, List.not_mem_nil, or_false] at hp
       rcases hp with rfl
       simp -implicitDefEqProofs (maxSteps := 2000000) (disch := omega) only [↓reduceIte, go_sem, Int.reduceToNat, Nat.reduceAdd, Nat.reduceLeDiff, Nat.reduceEqDiff, Nat.reduceSub, Nat.reduceMul, reduceCtorEq]
      ·intro p hp ob
       simp only [List.mem_cons, List.not_mem_nil, or_false] at hp
       rcases hp with rfl
       rfl
      ·rw [stM_eq f s k k rg (idsU f) L eX]
       show optA _ j = optA _ j
       rw [refsI_F, refsO_F]
       rfl
      ·rw [hLf]
       simp -implicitDefEqProofs (maxSteps := 2000000) (disch := omega) only [↓reduceIte, go_sem, Int.reduceToNat, Nat.reduceAdd, Nat.reduceLeDiff, Nat.reduceEqDiff, Nat.reduceSub, Nat.reduceMul, reduceCtorEq]
       exact ⟨rfl, rfl⟩
end Go.Proofs.YtgbmneoeggdaoaaDoor.X
