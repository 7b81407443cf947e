/- live's backward over blocks: a round of live.New. -/
import Derived.Test.YtgbmneoeggdaoaaGreatDoorXf
import Derived.Test.YtgbmneoeggdaoaaGreatDoorXam5
import Derived.Test.YtgbmneoeggdaoaaGreatDoorXe
namespace Go.Proofs.YtgbmneoeggdaoaaGreatDoor.X
open Go Go.AM Go.Proofs
open Nat (reduceAdd reduceLeDiff reduceEqDiff reduceSub reduceMul)
open Int (reduceToNat)
attribute [local go_sem ↓] w_skip w_lbl w_ops w_draw w_pre w_post w_alt w_seq w_cond w_block w_join w_loop w_exit w_ret w_scope w_rfunc l_nil l_cons th_n th_e th_r bk_n bk_r bk_e t_nil t_it t_call t_callg i_nil i_one i_grp s_nil s_cons c_call c_callg e_rar e_dynB e_mv e_nil e_dyn e_nilb e_frz o_mov o_bin o_eq o_un o_conv o_len o_slen o_idx o_aix o_fad o_load o_store o_boxp o_boxo o_boxm o_alloc o_allocm o_alloca o_nilarr o_build o_bslp o_bslo o_slc o_sslc o_slc3 o_sidx o_mkfn o_mkmv o_calle o_bslr o_ridx o_rload o_rapp o_vidx o_ext o_pick o_callf o_callb o_appd o_clear o_mxn o_field o_nilc o_make o_makeb o_buildm o_boxg o_mkif o_tass o_eqs o_callo o_callx k_int k_str k_bool k_grb k_grt k_some k_none k_rar k_arr k_lens k_lenf k_lenh k_lenb k_idxb k_idxs k_idxf k_idxh k_ld k_loadp k_loadr k_loade k_storer k_storee k_oin k_ois k_slcs k_slcf k_slch k_slc3s k_slc3f k_slc3h k_app2 k_apps k_appf k_apph k_cals k_cald k_cali k_cnb k_cna k_esn k_esc k_efn k_efc k_esh b_add b_sub b_mul b_quo b_rem b_and b_or b_xor b_andNot b_eql b_neq b_lss b_leq b_gtr b_geq b_shl b_shr b_seq b_sne b_slt b_sad q_bool q_str q_nil q_nilf u_not u_neg u_xor f_ret f_nor v_r v_c v_g v_reg v_ob v_set v_put v_so v_sn v_pn v_pc g_nil d_nil p_nil m_mv m_fr z_nil z_cons z_an z_ac g_cons d_cons p_cons y_mov y_bin y_eq y_un y_conv y_len y_slen y_idx y_aix y_fad y_load y_store y_boxp y_boxo y_boxm y_alloc y_alloca y_allocm y_nilarr y_build y_bslp y_bslo y_slc y_sslc y_slc3 y_sidx y_mkfn y_ext y_pick y_callf y_callb y_appd y_clear y_mxn y_field y_nilc y_make y_makeb y_buildm y_boxg y_mkif y_tass y_eqs y_callo y_mkmv y_callx y_vidx y_bslr y_ridx y_rload y_rapp y_calle nb_if
attribute [local go_sem] nbd VL_mk VL2_mk If_t If_f If_not If_and If_or If_dt If_df If_et If_ef If_ne Ck_t Ck_h Opt_s ld_a ld_c lm_a lm_c renL ren keepR renA idxM invL getObs mapOb renOb allNone putAll fzR fzO fz fzL fzOb fzB frzOk upFrom mapR resOne resA cellsOf oneA oneAL isP isPL okSt kRows kParts fillA setAt bor bor0 bor1 bor2 borC borI key0 key1 key2 keysA fillM cellsM cellM unif ptrA ifOk kPartsM getObsM allNoneM zipU scal0 scalar eqC evNil evNilF memK keyX hideM xbor scal1 scalX scalOb bndA mkMag showM lendV hideV hideR hideOb hideL hideO showL backO noneO mapA List.map_cons List.map_nil List.cons_append List.nil_append List.append_nil List.drop_zero List.drop_succ_cons List.drop_nil List.take_succ_cons List.take_zero List.take_nil List.length_cons List.length_nil List.length_map List.getElem?_map Option.map_some Option.map_none Int.toNat_natCast Int.toNat_zero Int.toNat_one Int.natCast_nonneg List.flatMap_cons List.flatMap_nil List.all_cons List.all_nil List.any_cons List.any_nil Bool.or_false Bool.false_or Bool.or_true Bool.true_or Bool.and_true Bool.true_and Bool.and_false Bool.false_and Bool.not_true Bool.not_false beq_self_eq_true nb_self all_nil List.forall_mem_cons tk_map tk_app bs_self bs_dec bq_t bq_f Bool.not_not decide_true decide_false Bool.not_not and_self and_true true_and eq_self List.reverse_cons List.reverse_nil List.getElem?_cons_zero List.getElem?_cons_succ cond_true cond_false List.set_cons_zero List.set_cons_succ Nat.zero_add Nat.add_zero if_true if_false ite_true ite_false implies_true wrap64 wrap8
open Go.Bits
set_option linter.unusedVariables false
set_option linter.unusedSimpArgs false
set_option maxRecDepth 10000
set_option maxHeartbeats 1000000
def blkAt (f : Fnc) (b : Nat) : Blk := f.blocks.getD b ⟨.empty, false, [], []⟩
def rowAt (S : List (List Nat)) (b : Nat) : List Nat := S.getD b []
/-- One block's step, and j of them from the last block on. -/
def stp1 (u : List Int) (f : Fnc) (S : List (List Nat)) (b : Nat) (x : Bool × List (List Bool × List Bool)) : Bool × List (List Bool × List Bool) :=
 (x.1 || stepC u (blkAt f b) (rowAt S b) x.2 b, stepL u (blkAt f b) (rowAt S b) x.2 b)
def rndJ (u : List Int) (f : Fnc) (S : List (List Nat)) (x : Bool × List (List Bool × List Bool)) : Nat → Bool × List (List Bool × List Bool)
 | 0 => x
 | j + 1 => stp1 u f S (f.blocks.length - 1 - j) (rndJ u f S x j)
/-- What live.New may take for granted of its function. -/
structure LvIn (f : Fnc) (S : List (List Nat)) : Prop where
 len : S.length = f.blocks.length
 row : ∀ r ∈ S, r.length < 1000000 ∧ ∀ s ∈ r, s < f.blocks.length
 code : ∀ B ∈ f.blocks, B.code.length < 1000000 ∧ ∀ x ∈ B.code, x.args.length ≤ 9223372036854775807
 nb : f.blocks.length < 1000000
structure LvL (f : Fnc) (u : List Int) (L : List (List Bool × List Bool)) : Prop where
 len : L.length = f.blocks.length
 all : ∀ x ∈ L, x.1.length = u.length ∧ x.2.length = u.length
theorem insAt_len {f : Fnc} {u : List Int} {L : List (List Bool × List Bool)} (h : LvL f u L) {b : Nat} (hb : b < f.blocks.length) : (insAt L b).length = u.length := by
 have hb : b < L.length := by rw [h.len]; exact hb
 rw [insAt, List.getD_eq_getElem?_getD, List.getElem?_eq_getElem hb]
 exact (h.all _ (List.getElem_mem hb)).1
theorem outAt_len {f : Fnc} {u : List Int} {L : List (List Bool × List Bool)} (h : LvL f u L) {b : Nat} (hb : b < f.blocks.length) : (outAt L b).length = u.length := by
 have hb : b < L.length := by rw [h.len]; exact hb
 rw [outAt, List.getD_eq_getElem?_getD, List.getElem?_eq_getElem hb]
 exact (h.all _ (List.getElem_mem hb)).2
theorem outK_len {f : Fnc} {u : List Int} {L : List (List Bool × List Bool)} (h : LvL f u L) {b : Nat} (hb : b < f.blocks.length) : ∀ {r : List Nat}, (outK L r b).length = u.length := by
 have h0 := outAt_len h hb
 intro r
 unfold outK
 revert h0
 generalize outAt L b = o
 intro h0
 induction r generalizing o with
 | nil => exact h0
 | cons s l ih => exact ih (orS o (insAt L s)) ((two_len _ _ _).trans h0)
theorem LvL.step {f : Fnc} {u : List Int} {L : List (List Bool × List Bool)} (h : LvL f u L) {B : Blk} {r : List Nat} {b : Nat} (hb : b < f.blocks.length) : LvL f u (stepL u B r L b) := by
 refine ⟨by rw [stepL, List.length_set, h.len], fun x hx => ?_⟩
 rcases List.mem_or_eq_of_mem_set hx with hx | hx
 ·exact h.all x hx
 ·rw [hx]
  exact ⟨(two_len _ _ _).trans (insAt_len h hb), outK_len h hb⟩
theorem LvL.rnd {f : Fnc} {u : List Int} {S : List (List Nat)} {x : Bool × List (List Bool × List Bool)} (h : LvL f u x.2) : ∀ {j : Nat}, j ≤ f.blocks.length → LvL f u (rndJ u f S x j).2
 | 0, _ => h
 | j + 1, hj => (LvL.rnd h (j := j) (by omega)).step (by omega)
theorem keys_stL {f : Fnc} {v vi vo : Nat} {rg : List (List AV)} {u : List Int} {ch : Bool} {L : List (List Bool × List Bool)} (hl : L.length < 1000000) : ∀ k ∈ (stL f v vi vo rg u ch L).map (·.1), k < 1000000000 := by
 have : ∀ (L : List (List Bool × List Bool)) i, ∀ k ∈ (objsL u.length i L).map (·.1), k < 2000000 + 4 * (i + L.length) := by
  intro L
  induction L with
  | nil => intro i k hk; cases hk
  | cons x r ih =>
   intro i k hk
   obtain ⟨a, b⟩ := x
   simp only [objsL, List.map_cons, List.mem_cons] at hk
   rw [List.length_cons]
   rcases hk with h | h | h | h | h
   ·unfold nmA at h; omega
   ·unfold nmA at h; omega
   ·unfold nmA at h; omega
   ·unfold nmA at h; omega
   ·have := ih (i + 1) k h
    omega
 intro k hk
 simp only [stL, List.map_cons, List.mem_cons] at hk
 rcases hk with h | h | h | h | h | h | h
 ·omega
 ·omega
 ·omega
 ·omega
 ·omega
 ·omega
 ·have := this L 0 k h
  omega
theorem C32 (f : Fnc) (v vi vo : Nat) (rg : List (List AV)) (u : List Int) (ch : Bool) (L : List (List Bool × List Bool)) (S P : List (List Nat)) (hI : LvIn f S) (hL : LvL f u L) (hul : u.length < 1000000) (hrg : rg.take u.length = u.map encN) (hsr : Srt u) :
  CtrG Tryz.prog 32 [.sl (f.blocks.map encBk), .fn 33 [.rp [grP S P], .ref 3 0, .ref 7 0]] (stL f v vi vo rg u ch L) (rndG (stL f v vi vo rg u (rndJ u f S (ch, L) f.blocks.length).1 (rndJ u f S (ch, L) f.blocks.length).2)) := by
 have hnb := hI.nb
 apply ctr_bG A32_ok (keys_stL (by rw [hL.len]; exact hI.nb)) (Nat.le_of_ble_eq_true rfl)
 unfold A32
 simp only [initL, Nat.reduceAdd]
 have ⟨G, eG⟩ : ∃ G, grP S P = .rp G := ⟨_, rfl⟩
 have hst : ∀ (b : Nat), b < f.blocks.length → ∀ x, LvL f u x.2 → CtrG Tryz.prog 33 [.int .i64 (b : Int), .agg (encBk (blkAt f b)), .rp [.rp G], .ref 3 0, .ref 7 0] (stL f v vi vo rg u x.1 x.2) (rndG (stL f v vi vo rg u (stp1 u f S b x).1 (stp1 u f S b x).2)) := by
  intro b hb x hx
  have hBk : f.blocks[b]? = some (blkAt f b) := by rw [blkAt, List.getD_eq_getElem?_getD, List.getElem?_eq_getElem hb]; rfl
  have hbS : b < S.length := by rw [hI.len]; exact hb
  have hS : S[b]? = some (rowAt S b) := by rw [rowAt, List.getD_eq_getElem?_getD, List.getElem?_eq_getElem hbS]; rfl
  have hr := hI.row _ (List.mem_of_getElem? hS)
  have hc := hI.code _ (List.mem_of_getElem? hBk)
  rw [← eG]
  exact C33 f v vi vo rg u x.1 x.2 S P b (blkAt f b) (rowAt S b) hbS hS hr.1 (fun s hs => by rw [hx.len]; exact hr.2 s hs) (by rw [hx.len]; exact hb) hx.all hul hrg hsr hBk hc.2 hc.1 (by rw [hx.len]; exact hnb) (keys_stL (by rw [hx.len]; exact hnb))
 rw [eG]
 simp -implicitDefEqProofs (disch := omega) only [↓reduceIte, go_sem, reduceToNat, reduceAdd, reduceLeDiff, reduceEqDiff, reduceSub, reduceMul, reduceCtorEq]
 refine loopB (σ := Nat) (fun j => ⟨[(0, .sl (f.blocks.map encBk)), (1, .fn 33 [.rp [.rp G], .ref 3 0, .ref 7 0]), (4, .int .i64 ((f.blocks.length : Int) - 1 - j))], stL f v vi vo rg u (rndJ u f S (ch, L) j).1 (rndJ u f S (ch, L) j).2⟩)
  (fun j => j ≤ f.blocks.length) (fun j => f.blocks.length - j) 0 ?_ (Nat.zero_le _) ?_
 ·refine .drop .refl (reg_sub ?_) fun k => rfl
  intro p hp
  simp only [List.mem_cons, List.not_mem_nil, or_false] at hp
  rcases hp with rfl | rfl | rfl <;> (simp -implicitDefEqProofs (disch := omega) only [↓reduceIte, go_sem, reduceToNat, reduceAdd, reduceLeDiff, reduceEqDiff, reduceSub, reduceMul, reduceCtorEq]; try rfl)
  simp
 ·intro j hj
  simp -implicitDefEqProofs (disch := omega) only [↓reduceIte, go_sem, reduceToNat, reduceAdd, reduceLeDiff, reduceEqDiff, reduceSub, reduceMul, reduceCtorEq]
  have hxj := hL.rnd (S := S) (x := (ch, L)) hj
  generalize hx : rndJ u f S (ch, L) j = x at hxj ⊢
  refine ifD (fun c => ?_) (fun c => ?_)
  ·have hb : f.blocks.length - 1 - j < f.blocks.length := by omega
   have hc := hst _ hb x hxj
   have hBk : f.blocks[f.blocks.length - 1 - j]? = some (blkAt f (f.blocks.length - 1 - j)) := by rw [blkAt, List.getD_eq_getElem?_getD, List.getElem?_eq_getElem hb]; rfl
   have hi : (f.blocks.length : Int) - 1 - j = ((f.blocks.length - 1 - j : Nat) : Int) := by omega
   rw [hi]
   have hx' : rndJ u f S (ch, L) (j + 1) = stp1 u f S (f.blocks.length - 1 - j) x := by rw [← hx]; rfl
   have hn1 : ((f.blocks.length - 1 - j : Nat) : Int) - 1 = (f.blocks.length : Int) - 1 - (j + 1 : Nat) := by omega
   generalize f.blocks.length - 1 - j = b at hc hBk hx' hn1 ⊢
   unfold encBk at hc ⊢
   simp -implicitDefEqProofs (disch := omega) only [↓reduceIte, go_sem, reduceToNat, reduceAdd, reduceLeDiff, reduceEqDiff, reduceSub, reduceMul, reduceCtorEq, hBk]
   refine callGR hc fun res objs' hR => ?_
   have hR1 : res = [] := hR.1
   rw [hR1]
   simp -implicitDefEqProofs (disch := omega) only [↓reduceIte, go_sem, reduceToNat, reduceAdd, reduceLeDiff, reduceEqDiff, reduceSub, reduceMul, reduceCtorEq]
   refine ⟨j + 1, .drop .refl (reg_sub ?_) fun k => ?_, by omega, by omega⟩
   ·intro p hp
    simp only [List.mem_cons, List.not_mem_nil, or_false] at hp
    rcases hp with rfl | rfl | rfl <;> (simp -implicitDefEqProofs (disch := omega) only [↓reduceIte, go_sem, reduceToNat, reduceAdd, reduceLeDiff, reduceEqDiff, reduceSub, reduceMul, reduceCtorEq]; try rfl)
    rw [hn1]
   ·rw [hx']
    exact (hR.2 k).symm
  ·simp -implicitDefEqProofs (disch := omega) only [↓reduceIte, go_sem, reduceToNat, reduceAdd, reduceLeDiff, reduceEqDiff, reduceSub, reduceMul, reduceCtorEq]
   refine ⟨[], rfl, rfl, fun k => ?_⟩
   have : j = f.blocks.length := by omega
   rw [this] at hx
   rw [hx]
/- The sets of live.New while they are made: objects that get their names. -/
theorem pairsOk_of {α : Type} {clash : α → α → Bool} {prec : List (List Nat)} : ∀ {l : List α} {j : Nat} {seen : List (Nat × α)}, (∀ p ∈ seen, ∀ y ∈ l, clash p.2 y = false) → l.Pairwise (fun x y => clash x y = false) → pairsOk clash prec j seen l = true
 | [], j, seen, _, _ => rfl
 | y :: l, j, seen, h1, h2 => by
  rw [List.pairwise_cons] at h2
  simp only [pairsOk, Bool.and_eq_true, List.all_eq_true, Bool.or_eq_true]
  refine ⟨fun p hp => .inl (by rw [h1 p hp y List.mem_cons_self]; rfl), pairsOk_of (fun p hp z hz => ?_) h2.2⟩
  rcases List.mem_cons.1 hp with rfl | hp
  ·exact h2.1 z hz
  ·exact h1 p hp z (List.mem_cons_of_mem _ hz)
def idL (ks : List Nat) : List (Nat × Nat) := ks.map fun k => (k, k)
theorem optA_idL {k : Nat} : ∀ {ks : List Nat}, optA (idL ks) k = if k ∈ ks then some k else none
 | [] => rfl
 | a :: ks => by
  have ih := optA_idL (k := k) (ks := ks)
  simp only [idL, List.map_cons, optA] at ih ⊢
  by_cases e : a = k
  ·subst e
   rw [Nat.beq_refl, if_pos List.mem_cons_self]
   rfl
  ·rw [beq_ne e]
   simp only [cond_false]
   rw [ih]
   have : k ∈ a :: ks ↔ k ∈ ks := ⟨fun h => (List.mem_cons.1 h).resolve_left fun h => e h.symm, List.mem_cons_of_mem _⟩
   by_cases c : k ∈ ks
   ·rw [if_pos c, if_pos (this.2 c)]
   ·rw [if_neg c, if_neg (fun h => c (this.1 h))]
/-- The names that are kept, and a new set's two. -/
def ksN (t : Nat) : List Nat := [3, 12, 1012, 1013, 1014] ++ (List.range (2 * t)).map (2000000 + ·)
def mN (d t : Nat) : List (Nat × Nat) := (d, 2000000 + 2 * t) :: (d + 1000, 2000000 + 2 * t + 1) :: idL (ksN t)
theorem mem_ksN {t k : Nat} : k ∈ ksN t ↔ k = 3 ∨ k = 12 ∨ k = 1012 ∨ k = 1013 ∨ k = 1014 ∨ (2000000 ≤ k ∧ k < 2000000 + 2 * t) := by
 simp only [ksN, List.mem_append, List.mem_cons, List.not_mem_nil, or_false, List.mem_map, List.mem_range, or_assoc]
 constructor
 ·rintro (h | h | h | h | h | ⟨a, h1, h2⟩)
  ·exact .inl h
  ·exact .inr (.inl h)
  ·exact .inr (.inr (.inl h))
  ·exact .inr (.inr (.inr (.inl h)))
  ·exact .inr (.inr (.inr (.inr (.inl h))))
  ·exact .inr (.inr (.inr (.inr (.inr (by omega)))))
 ·rintro (h | h | h | h | h | h)
  ·exact .inl h
  ·exact .inr (.inl h)
  ·exact .inr (.inr (.inl h))
  ·exact .inr (.inr (.inr (.inl h)))
  ·exact .inr (.inr (.inr (.inr (.inl h))))
  ·exact .inr (.inr (.inr (.inr (.inr ⟨k - 2000000, by omega, by omega⟩))))
theorem ksN_nodup {t : Nat} : (ksN t).Nodup := by
 unfold ksN
 rw [List.nodup_append]
 refine ⟨by decide, ?_, fun a ha b hb => ?_⟩
 ·refine List.Pairwise.map _ (fun a b (h : a ≠ b) => ?_) List.nodup_range
  omega
 ·simp only [List.mem_cons, List.not_mem_nil, or_false] at ha
  simp only [List.mem_map, List.mem_range] at hb
  obtain ⟨c, _, rfl⟩ := hb
  omega
theorem mN_ok {d t : Nat} (hd : d = 60 ∨ d = 75) : keysOk (mN d t) = true := by
 unfold keysOk mN
 refine pairsOk_of (fun p hp => by cases hp) ?_
 have hc : ∀ x : Nat × Nat, x ∈ idL (ksN t) → x.1 = x.2 ∧ x.1 ∈ ksN t := by
  intro x hx
  simp only [idL, List.mem_map] at hx
  obtain ⟨k, hk, rfl⟩ := hx
  exact ⟨rfl, hk⟩
 rw [List.pairwise_cons, List.pairwise_cons]
 refine ⟨fun y hy => ?_, fun y hy => ?_, ?_⟩
 ·rcases List.mem_cons.1 hy with rfl | hy
  ·simp only [Bool.or_eq_false_iff]
   exact ⟨beq_ne (by omega), beq_ne (by omega)⟩
  ·have ⟨h1, h2⟩ := hc y hy
   have h2 := mem_ksN.1 h2
   simp only [Bool.or_eq_false_iff]
   exact ⟨beq_ne (by omega), beq_ne (by omega)⟩
 ·have ⟨h1, h2⟩ := hc y hy
  have h2 := mem_ksN.1 h2
  simp only [Bool.or_eq_false_iff]
  exact ⟨beq_ne (by omega), beq_ne (by omega)⟩
 ·unfold idL
  refine List.Pairwise.map _ (fun a b (h : a ≠ b) => ?_) ksN_nodup
  simp only [Bool.or_eq_false_iff]
  exact ⟨beq_ne h, beq_ne h⟩
theorem optA_mN {d t k : Nat} : optA (mN d t) k = if k = d then some (2000000 + 2 * t) else if k = d + 1000 then some (2000000 + 2 * t + 1) else if k ∈ ksN t then some k else none := by
 unfold mN
 by_cases e : k = d
 ·subst e
  rw [if_pos rfl, optA_hit]
 ·rw [if_neg e, optA_ne e]
  by_cases e1 : k = d + 1000
  ·subst e1
   rw [if_pos rfl, optA_hit]
  ·rw [if_neg e1, optA_ne e1, optA_idL]
/-- Objects that are told by their names, when others get new names. -/
theorem mv_ob {x : St} {rs : List Nat} {m : List (Nat × Nat)} {objs : List (Nat × Ob)} (hk : keysOk m = true) (h1 : ∀ a b, optA m a = some b → optA objs b = (x.ob a).map (renOb m)) (h2 : ∀ b, (∀ a, optA m a ≠ some b) → optA objs b = none) (j : Nat) : optA objs j = (x.mv rs m).ob j := by
 show optA objs j = optA (renA m x.objs m) j
 rw [renA_ob (keysOk_spec hk).2]
 cases hi : optA (invL m) j with
 | none =>
  rw [h2 j fun a ha => by rw [(optA_inv hk).2 ha] at hi; cases hi]
  rfl
 | some a => rw [h1 a j ((optA_inv hk).1 hi)]; rfl
theorem mv_reg {x : St} {m : List (Nat × Nat)} {l : List (Nat × AV)} {os : List (Nat × Ob)} (h : ∀ p ∈ l, ren m (x.reg p.1) = p.2) (j : Nat) : (⟨l, os⟩ : St).reg j = (x.mv (l.map (·.1)) m).reg j := by
 show getA .dead l j = getA .dead (keepR (l.map (·.1)) x.reg m) j
 induction l with
 | nil => rfl
 | cons p l ih =>
  have h0 := h p List.mem_cons_self
  obtain ⟨a, v⟩ := p
  simp only [List.map_cons, keepR, getA]
  cases hb : Nat.beq a j with
  | true => exact h0.symm
  | false => exact ih fun q hq => h q (List.mem_cons_of_mem _ hq)
/-- The sets made so far, all empty. -/
def obE (n k : Nat) : Ob := if k % 2 = 0 then bxS n k else wdS (noneB n)
def objsE (n t : Nat) : List (Nat × Ob) := (List.range (2 * t)).map fun i => (2000000 + i, obE n (2000000 + i))
theorem optA_mapK {f : Nat → Ob} {k : Nat} : ∀ {l : List Nat}, optA (l.map fun i => (i, f i)) k = if k ∈ l then some (f k) else none
 | [] => rfl
 | a :: l => by
  have ih := optA_mapK (f := f) (k := k) (l := l)
  simp only [List.map_cons]
  by_cases e : k = a
  ·subst e
   rw [optA_hit, if_pos List.mem_cons_self]
  ·rw [optA_ne e, ih]
   have : k ∈ a :: l ↔ k ∈ l := by simp [e]
   by_cases c : k ∈ l
   ·rw [if_pos c, if_pos (this.2 c)]
   ·rw [if_neg c, if_neg (fun h => c (this.1 h))]
theorem optA_objsE {n t k : Nat} : optA (objsE n t) k = if 2000000 ≤ k ∧ k < 2000000 + 2 * t then some (obE n k) else none := by
 have : objsE n t = ((List.range (2 * t)).map (2000000 + ·)).map fun i => (i, obE n i) := by simp [objsE, List.map_map, Function.comp_def]
 rw [this, optA_mapK]
 have : k ∈ (List.range (2 * t)).map (2000000 + ·) ↔ 2000000 ≤ k ∧ k < 2000000 + 2 * t := by
  simp only [List.mem_map, List.mem_range]
  exact ⟨fun ⟨a, h1, h2⟩ => by omega, fun h => ⟨k - 2000000, by omega, by omega⟩⟩
 by_cases c : 2000000 ≤ k ∧ k < 2000000 + 2 * t
 ·rw [if_pos c, if_pos (this.2 c)]
 ·rw [if_neg c, if_neg (fun h => c (this.1 h))]
theorem objsE_low {n t k : Nat} (h : k < 2000000) : optA (objsE n t) k = none := by rw [optA_objsE, if_neg (by omega)]
theorem delA_none {α : Type} {k : Nat} : ∀ {l : List (Nat × α)}, (∀ p ∈ l, p.1 ≠ k) → delA l k = l
 | [], _ => rfl
 | (j, x) :: l, h => by
  have h0 := h (j, x) List.mem_cons_self
  simp only [delA, beq_ne h0, cond_false]
  rw [delA_none fun p hp => h p (List.mem_cons_of_mem _ hp)]
theorem objsE_del {n t k : Nat} (h : k < 2000000) : delA (objsE n t) k = objsE n t := by
 refine delA_none fun p hp => ?_
 simp only [objsE, List.mem_map] at hp
 obtain ⟨i, _, rfl⟩ := hp
 show 2000000 + i ≠ k
 omega
/-- The Live box in work with ki sets of what is wanted at the beginning, ko at the end. -/
def lvN (f : Fnc) (v m ki ko : Nat) : Ob := .box [.bool f.machine, .str f.name, .sl (f.regs.map encRg), .sl (f.params.map encO), .sl (f.blocks.map encBk), ptP f.blocks, .hs 1012 v 0 m, .hs 1013 ki 0 ki, .hs 1014 ko 0 ko]
def stN (f : Fnc) (v : Nat) (rg : List (List AV)) (n ki ko t : Nat) : List (Nat × Ob) :=
 (3, .box [.ref 12 0]) :: (12, lvN f v n ki ko) :: (1012, .arr v 1 rg) :: (1013, .rarr ki (refsI ki)) :: (1014, .rarr ko (refsO ko)) :: objsE n t
theorem stN_eq (f : Fnc) (v : Nat) (rg : List (List AV)) (n ki ko t : Nat) {X : List AV} (eX : ptP f.blocks = .rp X) : stN f v rg n ki ko t =
  (3, .box [.ref 12 0]) :: (12, .box [.bool f.machine, .str f.name, .sl (f.regs.map encRg), .sl (f.params.map encO), .sl (f.blocks.map encBk), .rp X, .hs 1012 v 0 n, .hs 1013 ki 0 ki, .hs 1014 ko 0 ko]) :: (1012, .arr v 1 rg) :: (1013, .rarr ki (refsI ki)) :: (1014, .rarr ko (refsO ko)) :: objsE n t := by
 unfold stN lvN
 rw [eX]
theorem lvN_eq (f : Fnc) (v n ki ko : Nat) {X : List AV} (eX : ptP f.blocks = .rp X) : lvN f v n ki ko = .box [.bool f.machine, .str f.name, .sl (f.regs.map encRg), .sl (f.params.map encO), .sl (f.blocks.map encBk), .rp X, .hs 1012 v 0 n, .hs 1013 ki 0 ki, .hs 1014 ko 0 ko] := by
 unfold lvN
 rw [eX]
theorem refsI_len {k : Nat} : (refsI k).length = k := by simp [refsI]
theorem refsO_len {k : Nat} : (refsO k).length = k := by simp [refsO]
theorem refsI_snoc {k : Nat} : refsI (k + 1) = refsI k ++ [.ref (nmA k) 0] := by simp [refsI, List.range_succ]
theorem refsO_snoc {k : Nat} : refsO (k + 1) = refsO k ++ [.ref (nmA k + 2) 0] := by simp [refsO, List.range_succ]
theorem ren_refs {m : List (Nat × Nat)} {a : Nat → Nat} : ∀ {l : List Nat}, (∀ i ∈ l, optA m (a i) = some (a i)) → renL m (l.map fun i => .ref (a i) 0) = l.map fun i => .ref (a i) 0
 | [], _ => rfl
 | i :: l, h => by
  have := ren_refs (m := m) (a := a) (l := l) fun j hj => h j (List.mem_cons_of_mem _ hj)
  simp only [List.map_cons, renL, ren, h i List.mem_cons_self, this]
theorem renL_append {m : List (Nat × Nat)} : ∀ {a b : List AV}, renL m (a ++ b) = renL m a ++ renL m b
 | [], b => rfl
 | x :: a, b => by simp only [List.cons_append, renL, renL_append (a := a)]
theorem stN_hi {f : Fnc} {v : Nat} {rg : List (List AV)} {n ki ko t j : Nat} (h : 2000000 ≤ j) : optA (stN f v rg n ki ko t) j = if j < 2000000 + 2 * t then some (obE n j) else none := by
 unfold stN
 rw [optA_ne (by omega), optA_ne (by omega), optA_ne (by omega), optA_ne (by omega), optA_ne (by omega), optA_objsE]
 by_cases c : j < 2000000 + 2 * t
 ·rw [if_pos c, if_pos ⟨h, c⟩]
 ·rw [if_neg c, if_neg fun q => c q.2]
theorem stN_lo {f : Fnc} {v : Nat} {rg : List (List AV)} {n ki ko t j : Nat} (h : j < 2000000) (h3 : j ≠ 3) (h12 : j ≠ 12) (h1012 : j ≠ 1012) (h1013 : j ≠ 1013) (h1014 : j ≠ 1014) : optA (stN f v rg n ki ko t) j = none := by
 unfold stN
 rw [optA_ne h3, optA_ne h12, optA_ne h1012, optA_ne h1013, optA_ne h1014, optA_objsE, if_neg (by omega)]
/-- A new set of names d, d + 1000 gets its name; the array by which it was appended is forgotten. -/
theorem nameSet {x : St} {l : List (Nat × AV)} {f : Fnc} {v n ki ko ki' ko' t d : Nat} {rg : List (List AV)} {c13 c14 : List AV} (hd : d = 60 ∨ d = 75)
  (hob : ∀ j, j ≠ d → j ≠ d + 1000 → j ≠ d + 2000 → j ≠ 12 → j ≠ 1013 → j ≠ 1014 → x.ob j = optA (stN f v rg n ki ko t) j)
  (h12 : x.ob 12 = some (lvN f v n ki' ko')) (h13 : x.ob 1013 = some (.rarr ki' c13)) (h14 : x.ob 1014 = some (.rarr ko' c14))
  (e13 : renL (mN d t) c13 = refsI ki') (e14 : renL (mN d t) c14 = refsO ko')
  (hB : x.ob d = some (.box [.int .i64 (n : Int), .hs (d + 1000) 0 0 (nw n)])) (hW : x.ob (d + 1000) = some (wdS (noneB n)))
  (hreg : ∀ p ∈ l, ren (mN d t) (x.reg p.1) = p.2) : StpB 0 x ⟨l, stN f v rg n ki' ko' (t + 1)⟩ := by
 have hm := mN_ok (t := t) hd
 have a1 : StpB 0 x (x.mv (l.map (·.1)) (mN d t)) := .mv _ _ .refl hm (fun k h => absurd h (Nat.not_lt_zero _)) (fun k k' _ h => absurd h (Nat.not_lt_zero _))
 refine .same a1 ⟨fun i => (mv_reg hreg i).symm, fun j => (mv_ob hm (fun a b hab => ?_) (fun b hb => ?_) j).symm⟩
 ·have q3 : optA (mN d t) 3 = some 3 := by rw [optA_mN, if_neg (by omega), if_neg (by omega), if_pos (mem_ksN.2 (by omega))]
  have q12 : optA (mN d t) 12 = some 12 := by rw [optA_mN, if_neg (by omega), if_neg (by omega), if_pos (mem_ksN.2 (by omega))]
  have q1012 : optA (mN d t) 1012 = some 1012 := by rw [optA_mN, if_neg (by omega), if_neg (by omega), if_pos (mem_ksN.2 (by omega))]
  have q1013 : optA (mN d t) 1013 = some 1013 := by rw [optA_mN, if_neg (by omega), if_neg (by omega), if_pos (mem_ksN.2 (by omega))]
  have q1014 : optA (mN d t) 1014 = some 1014 := by rw [optA_mN, if_neg (by omega), if_neg (by omega), if_pos (mem_ksN.2 (by omega))]
  have qd : optA (mN d t) (d + 1000) = some (2000000 + 2 * t + 1) := by rw [optA_mN, if_neg (by omega), if_pos rfl]
  rw [optA_mN] at hab
  by_cases e : a = d
  ·rw [if_pos e] at hab
   have := Option.some.inj hab
   rw [← this, e, hB, stN_hi (by omega), if_pos (by omega)]
   have e2 : (2000000 + 2 * t) % 2 = 0 := by omega
   simp only [Option.map_some, obE, if_pos e2, bxS, renOb, renL, ren, qd]
  ·rw [if_neg e] at hab
   by_cases e1 : a = d + 1000
   ·rw [if_pos e1] at hab
    have := Option.some.inj hab
    rw [← this, e1, hW, stN_hi (by omega), if_pos (by omega)]
    have e2 : ¬ (2000000 + 2 * t + 1) % 2 = 0 := by omega
    simp only [Option.map_some, obE, if_neg e2, wdS, renOb]
   ·rw [if_neg e1] at hab
    by_cases e2 : a ∈ ksN t
    ·rw [if_pos e2] at hab
     have := Option.some.inj hab
     rw [← this]
     rcases mem_ksN.1 e2 with h | h | h | h | h | h
     ·rw [h, hob 3 (by omega) (by omega) (by omega) (by omega) (by omega) (by omega)]
      simp only [stN, optA_hit, Option.map_some, renOb, renL, ren, q12]
     ·rw [h, h12]
      simp only [stN, lvN, ptP, Option.map_some, renOb, renL, ren, q1012, q1013, q1014]
      rw [optA_ne (by omega), optA_hit]
     ·rw [h, hob 1012 (by omega) (by omega) (by omega) (by omega) (by omega) (by omega)]
      unfold stN
      rw [optA_ne (by omega), optA_ne (by omega), optA_hit, optA_ne (by omega), optA_ne (by omega), optA_hit]
      rfl
     ·rw [h, h13]
      unfold stN
      rw [optA_ne (by omega), optA_ne (by omega), optA_ne (by omega), optA_hit, ← e13]
      rfl
     ·rw [h, h14]
      unfold stN
      rw [optA_ne (by omega), optA_ne (by omega), optA_ne (by omega), optA_ne (by omega), optA_hit, ← e14]
      rfl
     ·rw [hob a (by omega) (by omega) (by omega) (by omega) (by omega) (by omega), stN_hi h.1, stN_hi h.1, if_pos h.2, if_pos (by omega)]
      have qa : a % 2 = 0 → optA (mN d t) (a + 1) = some (a + 1) := fun h0 => by
       rw [optA_mN, if_neg (by omega), if_neg (by omega), if_pos (mem_ksN.2 (by omega))]
      unfold obE
      split
      ·rename_i h0
       simp only [bxS, Option.map_some, renOb, renL, ren, qa h0]
      ·rfl
    ·rw [if_neg e2] at hab
     cases hab
 ·by_cases c : 2000000 ≤ b
  ·rw [stN_hi c]
   split
   ·rename_i c2
    exfalso
    by_cases c3 : b = 2000000 + 2 * t
    ·exact hb d (by rw [optA_mN, if_pos rfl, c3])
    ·by_cases c4 : b = 2000000 + 2 * t + 1
     ·exact hb (d + 1000) (by rw [optA_mN, if_neg (by omega), if_pos rfl, c4])
     ·exact hb b (by rw [optA_mN, if_neg (by omega), if_neg (by omega), if_pos (mem_ksN.2 (by omega))])
   ·rfl
  ·have hk : b ∈ ksN t → False := fun h => by
    have h' := mem_ksN.1 h
    exact hb b (by rw [optA_mN, if_neg (by omega), if_neg (by omega), if_pos h])
   have hk' : ¬ (b = 3 ∨ b = 12 ∨ b = 1012 ∨ b = 1013 ∨ b = 1014 ∨ (2000000 ≤ b ∧ b < 2000000 + 2 * t)) := fun h => hk (mem_ksN.2 h)
   exact stN_lo (by omega) (by omega) (by omega) (by omega) (by omega) (by omega)
/- Rounds of live.New, plain: how long they go on, and what holds then. -/
theorem zer_le : ∀ {a b : List Bool}, a.length = b.length → (∀ i, a.getD i false = true → b.getD i false = true) → b.count false ≤ a.count false ∧ (b ≠ a → b.count false < a.count false)
 | [], [], _, _ => ⟨Nat.le_refl _, fun h => absurd rfl h⟩
 | x :: a, y :: b, hl, h => by
  have ih := zer_le (a := a) (b := b) (by simpa using hl) fun i hi => by simpa using h (i + 1) (by simpa using hi)
  have h0 := h 0
  simp only [List.getD_cons_zero] at h0
  cases x <;> cases y
  ·simp only [List.count_cons_self]
   refine ⟨by omega, fun q => ?_⟩
   have := ih.2 fun e => q (by rw [e])
   omega
  ·have e1 : (true :: b).count false = b.count false := by simp [List.count_cons]
   rw [e1]
   simp only [List.count_cons_self]
   exact ⟨by omega, fun _ => by omega⟩
  ·exact absurd (h0 rfl) (by simp)
  ·have e1 : (true :: b).count false = b.count false := by simp [List.count_cons]
   have e2 : (true :: a).count false = a.count false := by simp [List.count_cons]
   rw [e1, e2]
   exact ⟨ih.1, fun q => ih.2 fun e => q (by rw [e])⟩
 | [], _ :: _, hl, _ => by simp at hl
 | _ :: _, [], hl, _ => by simp at hl
theorem orS_get {a b : List Bool} {i : Nat} : (orS a b).getD i false = (decide (i < a.length) && (a.getD i false || b.getD i false)) := two_get ..
theorem orS_left {a b : List Bool} {i : Nat} (h : a.getD i false = true) : (orS a b).getD i false = true := by
 rw [orS_get, h]
 have : i < a.length := by
  refine Decidable.byContradiction fun hn => ?_
  rw [List.getD_eq_getElem?_getD, List.getElem?_eq_none (by omega)] at h
  cases h
 simp [this]
theorem orS_right {a b : List Bool} {i : Nat} (hl : b.length ≤ a.length) (h : b.getD i false = true) : (orS a b).getD i false = true := by
 rw [orS_get, h]
 have : i < b.length := by
  refine Decidable.byContradiction fun hn => ?_
  rw [List.getD_eq_getElem?_getD, List.getElem?_eq_none (by omega)] at h
  cases h
 have : i < a.length := by omega
 simp [this]
theorem orS_iff {a b : List Bool} {i : Nat} (h : (orS a b).getD i false = true) : a.getD i false = true ∨ b.getD i false = true := by
 rw [orS_get, Bool.and_eq_true, Bool.or_eq_true] at h
 exact h.2
def zerL (L : List (List Bool × List Bool)) : Nat := (L.map fun x => x.1.count false).sum
theorem zerL_set : ∀ {L : List (List Bool × List Bool)} {b : Nat} {z w : List Bool × List Bool}, L[b]? = some z → zerL (L.set b w) + z.1.count false = zerL L + w.1.count false
 | [], b, z, w, h => by simp at h
 | x :: L, 0, z, w, h => by
  have : x = z := by simpa using h
  subst this
  simp only [List.set_cons_zero, zerL, List.map_cons, List.sum_cons]
  omega
 | x :: L, b + 1, z, w, h => by
  have ih := zerL_set (L := L) (b := b) (z := z) (w := w) (by simpa using h)
  simp only [List.set_cons_succ, zerL, List.map_cons, List.sum_cons] at ih ⊢
  omega
theorem at_get {f : Fnc} {u : List Int} {L : List (List Bool × List Bool)} (h : LvL f u L) {b : Nat} (hb : b < f.blocks.length) : L[b]? = some (insAt L b, outAt L b) := by
 have hb : b < L.length := by rw [h.len]; exact hb
 rw [insAt, outAt, List.getD_eq_getElem?_getD, List.getElem?_eq_getElem hb]
 rfl
theorem insAt_set {L : List (List Bool × List Bool)} {b s : Nat} {x y : List Bool} (hb : b < L.length) : insAt (L.set b (x, y)) s = if s = b then x else insAt L s := by
 unfold insAt
 rw [List.getD_eq_getElem?_getD, List.getD_eq_getElem?_getD]
 by_cases e : s = b
 ·rw [if_pos e, e, List.getElem?_set_self hb]
  rfl
 ·rw [if_neg e, List.getElem?_set_ne fun q => e q.symm]
theorem outAt_set {L : List (List Bool × List Bool)} {b s : Nat} {x y : List Bool} (hb : b < L.length) : outAt (L.set b (x, y)) s = if s = b then y else outAt L s := by
 unfold outAt
 rw [List.getD_eq_getElem?_getD, List.getD_eq_getElem?_getD]
 by_cases e : s = b
 ·rw [if_pos e, e, List.getElem?_set_self hb]
  rfl
 ·rw [if_neg e, List.getElem?_set_ne fun q => e q.symm]
section
variable {u : List Int} {f : Fnc} {S : List (List Nat)}
theorem stp_zer {b : Nat} {x : Bool × List (List Bool × List Bool)} (h : LvL f u x.2) (hb : b < f.blocks.length) : zerL (stp1 u f S b x).2 ≤ zerL x.2 ∧ ((stp1 u f S b x).1 = true → x.1 = true ∨ zerL (stp1 u f S b x).2 < zerL x.2) := by
 have hg := at_get h hb
 have hz := zerL_set (w := (inN u (blkAt f b) (rowAt S b) x.2 b, outK x.2 (rowAt S b) b)) hg
 have hle := zer_le (a := insAt x.2 b) (b := inN u (blkAt f b) (rowAt S b) x.2 b) (two_len _ _ _).symm fun i hi => orS_left hi
 simp only [stp1, stepL] at hz ⊢
 refine ⟨by have := hle.1; omega, fun hc => ?_⟩
 rw [Bool.or_eq_true] at hc
 rcases hc with hc | hc
 ·exact .inl hc
 ·right
  have hc : inN u (blkAt f b) (rowAt S b) x.2 b ≠ insAt x.2 b := by
   intro e
   rw [stepC, e] at hc
   simp at hc
  have := hle.2 hc
  omega
theorem rnd_zer {x : Bool × List (List Bool × List Bool)} (h : LvL f u x.2) : ∀ {j : Nat}, j ≤ f.blocks.length → zerL (rndJ u f S x j).2 ≤ zerL x.2 ∧ ((rndJ u f S x j).1 = true → x.1 = true ∨ zerL (rndJ u f S x j).2 < zerL x.2)
 | 0, _ => ⟨Nat.le_refl _, fun h => .inl h⟩
 | j + 1, hj => by
  have ih := rnd_zer h (j := j) (by omega)
  have hs := stp_zer (S := S) (b := f.blocks.length - 1 - j) (h.rnd (S := S) (j := j) (by omega)) (by omega)
  have e : rndJ u f S x (j + 1) = stp1 u f S (f.blocks.length - 1 - j) (rndJ u f S x j) := rfl
  rw [← e] at hs
  refine ⟨by omega, fun hc => ?_⟩
  rcases hs.2 hc with h1 | h1
  ·rcases ih.2 h1 with h2 | h2
   ·exact .inl h2
   ·right; omega
  ·right; omega
def rnd1 (u : List Int) (f : Fnc) (S : List (List Nat)) (L : List (List Bool × List Bool)) : Bool × List (List Bool × List Bool) := rndJ u f S (false, L) f.blocks.length
def finL (u : List Int) (f : Fnc) (S : List (List Nat)) : Nat → List (List Bool × List Bool) → List (List Bool × List Bool)
 | 0, L => L
 | k + 1, L => if (rnd1 u f S L).1 = true then finL u f S k (rnd1 u f S L).2 else (rnd1 u f S L).2
theorem rnd1_L {L : List (List Bool × List Bool)} (h : LvL f u L) : LvL f u (rnd1 u f S L).2 := LvL.rnd (x := (false, L)) h (Nat.le_refl _)
theorem rnd1_zer {L : List (List Bool × List Bool)} (h : LvL f u L) (hc : (rnd1 u f S L).1 = true) : zerL (rnd1 u f S L).2 < zerL L := by
 rcases (rnd_zer (S := S) (x := (false, L)) h (Nat.le_refl _)).2 hc with h | h
 ·cases h
 ·exact h
/-- What holds when a round changes nothing. -/
structure Closed (u : List Int) (f : Fnc) (S : List (List Nat)) (L : List (List Bool × List Bool)) : Prop where
 out : ∀ b, b < f.blocks.length → ∀ s ∈ rowAt S b, ∀ i : Nat, (insAt L s).getD i false = true → (outAt L b).getD i false = true
 ins : ∀ b, b < f.blocks.length → ∀ i : Nat, (backS u (blkAt f b).code (outAt L b)).getD i false = true → (insAt L b).getD i false = true
theorem outK_mono {f : Fnc} {u : List Int} {L : List (List Bool × List Bool)} (h : LvL f u L) {b : Nat} (hb : b < f.blocks.length) : ∀ {r : List Nat}, (∀ s ∈ r, s < f.blocks.length) → (∀ i : Nat, (outAt L b).getD i false = true → (outK L r b).getD i false = true) ∧ ∀ s ∈ r, ∀ i : Nat, (insAt L s).getD i false = true → (outK L r b).getD i false = true := by
 have h0 := outAt_len h hb
 intro r hr
 unfold outK
 revert h0
 generalize outAt L b = o
 intro h0
 induction r generalizing o with
 | nil => exact ⟨fun i h => h, fun s hs => by cases hs⟩
 | cons s l ih =>
  have hs := insAt_len h (hr s List.mem_cons_self)
  have := ih (fun t ht => hr t (List.mem_cons_of_mem _ ht)) (orS o (insAt L s)) ((two_len _ _ _).trans h0)
  refine ⟨fun i hi => this.1 i (orS_left hi), fun t ht i hi => ?_⟩
  rcases List.mem_cons.1 ht with e | ht
  ·rw [e] at hi
   exact this.1 i (orS_right (by omega) hi)
  ·exact this.2 t ht i hi
theorem outK_iff {L : List (List Bool × List Bool)} {b i : Nat} : ∀ {r : List Nat}, (outK L r b).getD i false = true → (outAt L b).getD i false = true ∨ ∃ s ∈ r, (insAt L s).getD i false = true := by
 intro r
 unfold outK
 generalize outAt L b = o
 intro h
 induction r generalizing o with
 | nil => exact .inl h
 | cons s l ih =>
  rcases ih _ h with h | ⟨t, ht, h⟩
  ·rcases orS_iff h with h | h
   ·exact .inl h
   ·exact .inr ⟨s, List.mem_cons_self, h⟩
  ·exact .inr ⟨t, List.mem_cons_of_mem _ ht, h⟩
theorem rowAt_lt (hI : LvIn f S) {b : Nat} (hb : b < f.blocks.length) : ∀ s ∈ rowAt S b, s < f.blocks.length := by
 have hbS : b < S.length := by rw [hI.len]; exact hb
 have hS : S[b]? = some (rowAt S b) := by rw [rowAt, List.getD_eq_getElem?_getD, List.getElem?_eq_getElem hbS]; rfl
 exact (hI.row _ (List.mem_of_getElem? hS)).2
theorem rnd_closed (hI : LvIn f S) {L : List (List Bool × List Bool)} (h : LvL f u L) : ∀ {j : Nat}, j ≤ f.blocks.length → (rndJ u f S (false, L) j).1 = false →
  (∀ s, insAt (rndJ u f S (false, L) j).2 s = insAt L s) ∧ ∀ b, b < f.blocks.length → f.blocks.length - j ≤ b →
   (∀ s ∈ rowAt S b, ∀ i : Nat, (insAt L s).getD i false = true → (outAt (rndJ u f S (false, L) j).2 b).getD i false = true) ∧
   (∀ i : Nat, (backS u (blkAt f b).code (outAt (rndJ u f S (false, L) j).2 b)).getD i false = true → (insAt L b).getD i false = true)
 | 0, _, _ => ⟨fun s => rfl, fun b h1 h2 => by omega⟩
 | j + 1, hj, hc => by
  have hLj := LvL.rnd (S := S) (x := (false, L)) h (j := j) (by omega)
  have e : rndJ u f S (false, L) (j + 1) = stp1 u f S (f.blocks.length - 1 - j) (rndJ u f S (false, L) j) := rfl
  have ih := rnd_closed hI h (j := j) (by omega)
  rw [e] at hc ⊢
  generalize rndJ u f S (false, L) j = x at hLj ih hc ⊢
  generalize hb : f.blocks.length - 1 - j = b at hc ⊢
  have hbn : b < f.blocks.length := by omega
  have hbL : b < x.2.length := by rw [hLj.len]; exact hbn
  simp only [stp1, Bool.or_eq_false_iff] at hc
  have ⟨ih1, ih2⟩ := ih hc.1
  have hN : inN u (blkAt f b) (rowAt S b) x.2 b = insAt x.2 b := by
   have := hc.2
   rw [stepC] at this
   simpa using this
  have hi : ∀ s, insAt (stepL u (blkAt f b) (rowAt S b) x.2 b) s = insAt x.2 s := by
   intro s
   rw [stepL, insAt_set hbL]
   split
   ·rename_i e; rw [hN, e]
   ·rfl
  have ho : ∀ s, outAt (stepL u (blkAt f b) (rowAt S b) x.2 b) s = if s = b then outK x.2 (rowAt S b) b else outAt x.2 s := by
   intro s
   rw [stepL, outAt_set hbL]
  refine ⟨fun s => (hi s).trans (ih1 s), fun c hcn hcj => ?_⟩
  simp only [stp1, ho]
  by_cases ec : c = b
  ·subst ec
   have hmo := outK_mono hLj hbn (rowAt_lt hI hbn)
   rw [if_pos rfl]
   refine ⟨fun s hs i hsi => hmo.2 s hs i (by rw [ih1]; exact hsi), fun i hbi => ?_⟩
   rw [← ih1, ← hN, inN]
   refine orS_right ?_ hbi
   rw [backS_len, outK_len hLj hbn, insAt_len hLj hbn]
   exact Nat.le_refl _
  ·rw [if_neg ec]
   exact ih2 c hcn (by omega)
theorem rnd1_closed (hI : LvIn f S) {L : List (List Bool × List Bool)} (h : LvL f u L) (hc : (rnd1 u f S L).1 = false) : Closed u f S (rnd1 u f S L).2 := by
 have ⟨h1, h2⟩ := rnd_closed hI h (Nat.le_refl _) hc
 have h1 : ∀ s, insAt (rnd1 u f S L).2 s = insAt L s := h1
 exact ⟨fun b hb s hs i hi => (h2 b hb (by omega)).1 s hs i (by rw [← h1]; exact hi), fun b hb i hi => by rw [h1]; exact (h2 b hb (by omega)).2 i hi⟩
theorem rnd_inv {Q : List (List Bool × List Bool) → Prop} (hQ : ∀ L b, LvL f u L → b < f.blocks.length → Q L → Q (stepL u (blkAt f b) (rowAt S b) L b)) {x : Bool × List (List Bool × List Bool)} (h : LvL f u x.2) (h0 : Q x.2) : ∀ {j : Nat}, j ≤ f.blocks.length → Q (rndJ u f S x j).2
 | 0, _ => h0
 | j + 1, hj => hQ _ _ (h.rnd (S := S) (by omega)) (by omega) (rnd_inv hQ h h0 (j := j) (by omega))
theorem finL_spec (hI : LvIn f S) {Q : List (List Bool × List Bool) → Prop} (hQ : ∀ L b, LvL f u L → b < f.blocks.length → Q L → Q (stepL u (blkAt f b) (rowAt S b) L b)) : ∀ {k : Nat} {L : List (List Bool × List Bool)}, LvL f u L → Q L → zerL L < k → LvL f u (finL u f S k L) ∧ Q (finL u f S k L) ∧ Closed u f S (finL u f S k L)
 | 0, L, _, _, hk => by omega
 | k + 1, L, hL, h0, hk => by
  have hq : Q (rnd1 u f S L).2 := rnd_inv hQ (x := (false, L)) hL h0 (Nat.le_refl _)
  simp only [finL]
  split
  ·rename_i hc
   have := rnd1_zer hL hc
   exact finL_spec hI hQ (rnd1_L hL) hq (by omega)
  ·rename_i hc
   exact ⟨rnd1_L hL, hq, rnd1_closed hI hL (by simpa using hc)⟩
end
/- live.New's objects, when they are written no more. -/
theorem StpB.trans {b : Nat} {a x c : St} (h : StpB b a x) (k : StpB b x c) : StpB b a c := by
 induction k with
 | refl => exact h
 | same _ hs ih => exact ih.same hs
 | drop _ h1 h2 ih => exact ih.drop h1 h2
 | mv rs m _ h1 h2 h3 ih => exact ih.mv rs m h1 h2 h3
 | frz k _ h1 h2 h3 ih => exact ih.frz k h1 h2 h3
def refsF (c : Nat) : Nat → List (List Bool × List Bool) → List AV
 | _, [] => []
 | i, _ :: r => .ref (nmA i + c) 0 :: refsF c (i + 1) r
theorem refsF_eq {c : Nat} : ∀ {L : List (List Bool × List Bool)} {i : Nat}, refsF c i L = (List.range' i L.length).map fun j => .ref (nmA j + c) 0
 | [], i => rfl
 | x :: r, i => by
  rw [refsF, refsF_eq (L := r), List.length_cons, List.range'_succ]
  rfl
theorem refsI_F {L : List (List Bool × List Bool)} : refsI L.length = refsF 0 0 L := by rw [refsF_eq, refsI, List.range_eq_range']; rfl
theorem refsO_F {L : List (List Bool × List Bool)} : refsO L.length = refsF 2 0 L := by rw [refsF_eq, refsO, List.range_eq_range']
theorem fz_refsF {c k : Nat} {ob : Ob} : ∀ {L : List (List Bool × List Bool)} {i : Nat}, (∀ j, i ≤ j → nmA j + c ≠ k) → fzL k ob (refsF c i L) = refsF c i L
 | [], i, h => rfl
 | x :: r, i, h => by
  simp only [refsF, fzL, fz]
  rw [beq_ne (h i (Nat.le_refl _)), fz_refsF fun j hj => h j (by omega)]
  rfl
theorem fz_objsL {n k : Nat} {ob : Ob} : ∀ {L : List (List Bool × List Bool)} {i : Nat}, k < nmA i → fzO k ob (objsL n i L) = objsL n i L
 | [], i, h => rfl
 | (a, b) :: r, i, h => by
  have ih := fz_objsL (n := n) (ob := ob) (L := r) (i := i + 1) (k := k) (by unfold nmA at *; omega)
  simp only [objsL, fzO]
  rw [beq_ne (show nmA i ≠ k by omega), beq_ne (show nmA i + 1 ≠ k by omega), beq_ne (show nmA i + 2 ≠ k by omega), beq_ne (show nmA i + 3 ≠ k by omega)]
  simp only [cond_false, bxS, wdS, fzOb, fzL, fz]
  rw [beq_ne (show nmA i + 1 ≠ k by omega), beq_ne (show nmA i + 2 + 1 ≠ k by omega), ih]
  rfl
theorem fz_setA {n k : Nat} {ob : Ob} : ∀ {ss : List (List Bool)} {l : List AV}, fzL k ob ((ss.map fun s => setA n s) ++ l) = (ss.map fun s => setA n s) ++ fzL k ob l
 | [], l => rfl
 | s :: ss, l => by
  have ih := fz_setA (n := n) (k := k) (ob := ob) (ss := ss) (l := l)
  simp only [List.map_cons, List.cons_append, fzL]
  rw [ih]
  rfl
theorem setA_pure {n : Nat} : ∀ {ss : List (List Bool)}, isPL (ss.map fun s => setA n s) = true
 | [] => rfl
 | s :: ss => by simp only [List.map_cons, isPL, setA, isP, Bool.true_and]; exact setA_pure
/-- The Live while it is frozen: the sets of d are done. -/
def stZ (X : AV) (f : Fnc) (v vi vo : Nat) (rg : List (List AV)) (n k : Nat) (d L : List (List Bool × List Bool)) : St :=
 ⟨[(2, .ref 12 0)], (3, .box [.ref 12 0]) :: (12, .box [.bool f.machine, .str f.name, .sl (f.regs.map encRg), .sl (f.params.map encO), .sl (f.blocks.map encBk), X, .hs 1012 v 0 n, .hs 1013 vi 0 k, .hs 1014 vo 0 k]) :: (1012, .arr v 1 rg) ::
  (1013, .rarr vi ((d.map (·.1)).map (fun s => setA n s) ++ refsF 0 d.length L)) :: (1014, .rarr vo ((d.map (·.2)).map (fun s => setA n s) ++ refsF 2 d.length L)) :: objsL n d.length L⟩
theorem frz_one {X : List AV} {f : Fnc} {v vi vo n k : Nat} {rg : List (List AV)} {d r : List (List Bool × List Bool)} {a b : List Bool} (ha : a.length = n) (hb : b.length = n) :
  StpB 0 (stZ (.rp X) f v vi vo rg n k d ((a, b) :: r)) (stZ (.rp X) f v vi vo rg n k (d ++ [(a, b)]) r) := by
 have hn : nmA (d.length + 1) = nmA d.length + 4 := by unfold nmA; omega
 have hm : 2000000 ≤ nmA d.length := by unfold nmA; omega
 have ea : ((encWs a).drop 0).take (nw n) = encWs a := by rw [List.drop_zero, ← ha]; exact encWs_take a
 have eb : ((encWs b).drop 0).take (nw n) = encWs b := by rw [List.drop_zero, ← hb]; exact encWs_take b
 have eda : ((d ++ [(a, b)]).map (·.1)).map (fun s => setA n s) = (d.map (·.1)).map (fun s => setA n s) ++ [setA n a] := by simp
 have edb : ((d ++ [(a, b)]).map (·.2)).map (fun s => setA n s) = (d.map (·.2)).map (fun s => setA n s) ++ [setA n b] := by simp
 have hq : ∀ j, d.length + 1 ≤ j → nmA d.length + 4 ≤ nmA j := fun j hj => by unfold nmA; omega
 generalize hN : nmA d.length = N at hn hm hq
 have hdl : (d ++ [(a, b)]).length = d.length + 1 := by simp
 have f1 : ∀ kk ob, kk < N + 4 → fzO kk ob (objsL n (d.length + 1) r) = objsL n (d.length + 1) r := fun kk ob h => fz_objsL (by omega)
 have f2 : ∀ kk ob, kk < N + 4 → fzL kk ob (refsF 0 (d.length + 1) r) = refsF 0 (d.length + 1) r := fun kk ob h => fz_refsF fun j hj => by have := hq j hj; omega
 have f3 : ∀ kk ob, kk < N + 4 → fzL kk ob (refsF 2 (d.length + 1) r) = refsF 2 (d.length + 1) r := fun kk ob h => fz_refsF fun j hj => by have := hq j hj; omega
 unfold stZ
 rw [eda, edb, hdl]
 simp only [refsF, objsL, hN, Nat.add_zero]
 have g1 : ∀ kk ob l, fzL kk ob ((d.map (·.1)).map (fun s => setA n s) ++ l) = (d.map (·.1)).map (fun s => setA n s) ++ fzL kk ob l := fun kk ob l => fz_setA
 have g2 : ∀ kk ob l, fzL kk ob ((d.map (·.2)).map (fun s => setA n s) ++ l) = (d.map (·.2)).map (fun s => setA n s) ++ fzL kk ob l := fun kk ob l => fz_setA
 generalize (d.map (·.1)).map (fun s => setA n s) = DA at *
 generalize (d.map (·.2)).map (fun s => setA n s) = DB at *
 generalize refsF 0 (d.length + 1) r = RA at *
 generalize refsF 2 (d.length + 1) r = RB at *
 generalize objsL n (d.length + 1) r = OL at *
 have hz : ∀ kk ob A B O, 2000000 ≤ kk → (⟨[(2, .ref 12 0)], (3, .box [.ref 12 0]) :: (12, .box [.bool f.machine, .str f.name, .sl (f.regs.map encRg), .sl (f.params.map encO), .sl (f.blocks.map encBk), .rp X, .hs 1012 v 0 n, .hs 1013 vi 0 k, .hs 1014 vo 0 k]) :: (1012, .arr v 1 rg) ::
  (1013, .rarr vi A) :: (1014, .rarr vo B) :: O⟩ : St).frz kk ob = ⟨[(2, .ref 12 0)], (3, .box [.ref 12 0]) :: (12, .box [.bool f.machine, .str f.name, .sl (f.regs.map encRg), .sl (f.params.map encO), .sl (f.blocks.map encBk), .rp X, .hs 1012 v 0 n, .hs 1013 vi 0 k, .hs 1014 vo 0 k]) :: (1012, .arr v 1 rg) ::
  (1013, .rarr vi (fzL kk ob A)) :: (1014, .rarr vo (fzL kk ob B)) :: fzO kk ob O⟩ := by
  intro kk ob A B O hk
  simp only [St.frz, fzR, fzO, fz, fzOb, fzL]
  rw [beq_ne (show 3 ≠ kk by omega), beq_ne (show 12 ≠ kk by omega), beq_ne (show 1012 ≠ kk by omega), beq_ne (show 1013 ≠ kk by omega), beq_ne (show 1014 ≠ kk by omega)]
  rfl
 have hl : ∀ kk A B O, 2000000 ≤ kk → (⟨[(2, .ref 12 0)], (3, .box [.ref 12 0]) :: (12, .box [.bool f.machine, .str f.name, .sl (f.regs.map encRg), .sl (f.params.map encO), .sl (f.blocks.map encBk), .rp X, .hs 1012 v 0 n, .hs 1013 vi 0 k, .hs 1014 vo 0 k]) :: (1012, .arr v 1 rg) ::
  (1013, .rarr vi A) :: (1014, .rarr vo B) :: O⟩ : St).ob kk = optA O kk := by
  intro kk A B O hk
  show optA _ kk = _
  rw [optA_ne (by omega), optA_ne (by omega), optA_ne (by omega), optA_ne (by omega), optA_ne (by omega)]
 have b1 : Nat.beq N (N + 1) = false := beq_ne (by omega)
 have b2 : Nat.beq (N + 2) (N + 1) = false := beq_ne (by omega)
 have b3 : Nat.beq (N + 3) (N + 1) = false := beq_ne (by omega)
 have b4 : Nat.beq (N + 2 + 1) (N + 1) = false := beq_ne (by omega)
 have b5 : Nat.beq (N + 2) N = false := beq_ne (by omega)
 have b6 : Nat.beq (N + 3) N = false := beq_ne (by omega)
 have b7 : Nat.beq (N + 2 + 1) N = false := beq_ne (by omega)
 have b8 : Nat.beq (N + 2) (N + 3) = false := beq_ne (by omega)
 have b9 : Nat.beq (N + 2 + 1) (N + 3) = true := Nat.beq_refl _
 have bx : ∀ j, Nat.beq j j = true := Nat.beq_refl
 refine StpB.trans (.frz (N + 1) .refl ((hl _ _ _ _ (by omega)).trans (by rw [optA_ne (by omega), optA_hit])) rfl (Nat.zero_le _)) ?_
 rw [hz _ _ _ _ _ (by omega), g1, g2]
 simp only [fzO, fzL, fz, fzOb, bxS, wdS, b1, b2, b3, b4, bx, cond_true, cond_false, f1 (N + 1) _ (by omega), f2 (N + 1) _ (by omega), f3 (N + 1) _ (by omega), ea, if_true]
 refine StpB.trans (.frz N .refl ((hl _ _ _ _ (by omega)).trans (by rw [optA_hit])) rfl (Nat.zero_le _)) ?_
 rw [hz _ _ _ _ _ (by omega), g1, g2]
 simp only [fzO, fzL, fz, fzOb, b5, b6, b7, bx, cond_true, cond_false, f1 N _ (by omega), f2 N _ (by omega), f3 N _ (by omega), List.drop_zero]
 refine StpB.trans (.frz (N + 3) .refl ((hl _ _ _ _ (by omega)).trans (by rw [optA_ne (by omega), optA_hit])) rfl (Nat.zero_le _)) ?_
 rw [hz _ _ _ _ _ (by omega), g1, g2]
 simp only [fzO, fzL, fz, fzOb, b8, b9, bx, cond_true, cond_false, f1 (N + 3) _ (by omega), f2 (N + 3) _ (by omega), f3 (N + 3) _ (by omega), eb, if_true]
 refine StpB.trans (.frz (N + 2) .refl ((hl _ _ _ _ (by omega)).trans (by rw [optA_hit])) rfl (Nat.zero_le _)) ?_
 rw [hz _ _ _ _ _ (by omega), g1, g2]
 simp only [fzO, fzL, fz, fzOb, bx, cond_true, cond_false, f1 (N + 2) _ (by omega), f2 (N + 2) _ (by omega), f3 (N + 2) _ (by omega), List.drop_zero]
 refine .drop .refl (fun i => .inl rfl) fun j => ?_
 simp [setA]
theorem frz_sets {X : List AV} {f : Fnc} {v vi vo n k : Nat} {rg : List (List AV)} : ∀ {L d : List (List Bool × List Bool)}, (∀ x ∈ L, x.1.length = n ∧ x.2.length = n) → StpB 0 (stZ (.rp X) f v vi vo rg n k d L) (stZ (.rp X) f v vi vo rg n k (d ++ L) [])
 | [], d, _ => by rw [List.append_nil]; exact .refl
 | (a, b) :: r, d, h => by
  have h0 := h (a, b) List.mem_cons_self
  have := StpB.trans (frz_one (X := X) (f := f) (v := v) (vi := vi) (vo := vo) (k := k) (rg := rg) (d := d) (r := r) h0.1 h0.2) (frz_sets (L := r) (d := d ++ [(a, b)]) fun x hx => h x (List.mem_cons_of_mem _ hx))
  rwa [List.append_assoc] at this
theorem frz_live {X : List AV} {f : Fnc} {v vi vo : Nat} {u : List Int} {rg : List (List AV)} {L : List (List Bool × List Bool)} (hX : ptP f.blocks = .rp X) (hrg : rg.take u.length = u.map encN) (hL : ∀ x ∈ L, x.1.length = u.length ∧ x.2.length = u.length) :
  StpB 0 (stZ (.rp X) f v vi vo rg u.length L.length [] L) ⟨[(2, lvP f u (L.map (·.1)) (L.map (·.2)))], [(3, .box [lvP f u (L.map (·.1)) (L.map (·.2))])]⟩ := by
 refine StpB.trans (frz_sets hL) ?_
 rw [List.nil_append]
 have e1 := setA_enc (n := u.length) (ss := L.map (·.1)) (by intro s hs; have ⟨x, hx, e⟩ := List.mem_map.1 hs; rw [← e]; exact (hL x hx).1)
 have e2 := setA_enc (n := u.length) (ss := L.map (·.2)) (by intro s hs; have ⟨x, hx, e⟩ := List.mem_map.1 hs; rw [← e]; exact (hL x hx).2)
 have t1 : (((L.map (·.1)).map fun s => setA u.length s).drop 0).take L.length = (L.map (·.1)).map fun s => setA u.length s := by rw [List.drop_zero]; exact List.take_of_length_le (by simp)
 have t2 : (((L.map (·.2)).map fun s => setA u.length s).drop 0).take L.length = (L.map (·.2)).map fun s => setA u.length s := by rw [List.drop_zero]; exact List.take_of_length_le (by simp)
 have p1 := setA_pure (n := u.length) (ss := L.map (·.1))
 have p2 := setA_pure (n := u.length) (ss := L.map (·.2))
 have z1 : ∀ kk ob, fzL kk ob ((L.map (·.1)).map fun s => setA u.length s) = (L.map (·.1)).map fun s => setA u.length s := fun kk ob => by
  have := fz_setA (n := u.length) (k := kk) (ob := ob) (ss := L.map (·.1)) (l := [])
  simpa only [List.append_nil, fzL] using this
 have z2 : ∀ kk ob, fzL kk ob ((L.map (·.2)).map fun s => setA u.length s) = (L.map (·.2)).map fun s => setA u.length s := fun kk ob => by
  have := fz_setA (n := u.length) (k := kk) (ob := ob) (ss := L.map (·.2)) (l := [])
  simpa only [List.append_nil, fzL] using this
 unfold lvP
 rw [hX]
 simp only [stZ, refsF, objsL, List.append_nil]
 generalize (L.map (·.1)).map (fun s => setA u.length s) = DA at *
 generalize (L.map (·.2)).map (fun s => setA u.length s) = DB at *
 refine StpB.trans (.frz 1013 (ob := .rarr vi DA) .refl rfl p1 (Nat.zero_le _)) ?_
 simp only [St.frz, fzR, fzO, fzOb, fzL, fz, z1, z2, t1, e1, Nat.beq_refl, cond_true, cond_false, if_true, beq_ne (show 3 ≠ 1013 by omega), beq_ne (show 12 ≠ 1013 by omega), beq_ne (show 1012 ≠ 1013 by omega), beq_ne (show 1014 ≠ 1013 by omega)]
 refine StpB.trans (.frz 1014 (ob := .rarr vo DB) .refl rfl p2 (Nat.zero_le _)) ?_
 simp only [St.frz, fzR, fzO, fzOb, fzL, fz, z1, z2, t2, e2, Nat.beq_refl, cond_true, cond_false, if_true, beq_ne (show 3 ≠ 1014 by omega), beq_ne (show 12 ≠ 1014 by omega), beq_ne (show 1012 ≠ 1014 by omega)]
 refine StpB.trans (.frz 1012 (ob := .arr v 1 rg) .refl rfl rfl (Nat.zero_le _)) ?_
 simp only [St.frz, fzR, fzO, fzOb, fzL, fz, hrg, List.drop_zero, Nat.beq_refl, cond_true, cond_false, if_true, beq_ne (show 3 ≠ 1012 by omega), beq_ne (show 12 ≠ 1012 by omega)]
 refine StpB.trans (.frz 12 .refl rfl rfl (Nat.zero_le _)) ?_
 simp only [St.frz, fzR, fzO, fzOb, fzL, fz, List.drop_zero, Nat.beq_refl, cond_true, cond_false, beq_ne (show 3 ≠ 12 by omega)]
 exact .refl
theorem objsE_fz {n t kk : Nat} {ob : Ob} (h : kk < 2000000) : fzO kk ob (objsE n t) = objsE n t := by
 have : ∀ (l : List Nat), fzO kk ob (l.map fun i => (2000000 + i, obE n (2000000 + i))) = l.map fun i => (2000000 + i, obE n (2000000 + i)) := by
  intro l
  induction l with
  | nil => rfl
  | cons i l ih =>
   simp only [List.map_cons, fzO, beq_ne (show 2000000 + i ≠ kk by omega), cond_false, ih]
   congr 2
   unfold obE
   split
   ·simp only [bxS, fzOb, fzL, fz, beq_ne (show 2000000 + i + 1 ≠ kk by omega), cond_false]
   ·rfl
 exact this _
theorem refsI_fz {k kk : Nat} {ob : Ob} (h : kk < 2000000) : fzL kk ob (refsI k) = refsI k := by
 unfold refsI
 exact fzB_ref fun i _ => by unfold nmA; omega
theorem refsO_fz {k kk : Nat} {ob : Ob} (h : kk < 2000000) : fzL kk ob (refsO k) = refsO k := by
 unfold refsO
 exact fzB_ref (a := fun i => nmA i + 2) fun i _ => by unfold nmA; omega
/-! The function's virtual registers, sorted, each once. -/
theorem cpt_mem {x : Int} : ∀ {l : List Int}, x ∈ cpt l ↔ x ∈ l
 | [] => Iff.rfl
 | [y] => Iff.rfl
 | y :: z :: l => by
  have ih := cpt_mem (x := x) (l := z :: l)
  rw [cpt]
  split
  ·rename_i h
   rw [ih, h]
   simp
  ·rw [List.mem_cons, ih, List.mem_cons (a := x) (b := y)]
theorem cpt_lt : ∀ {l : List Int}, l.Pairwise (· ≤ ·) → (cpt l).Pairwise (· < ·)
 | [], _ => .nil
 | [y], _ => by simp [cpt]
 | y :: z :: l, h => by
  rw [List.pairwise_cons] at h
  have ih := cpt_lt h.2
  rw [cpt]
  split
  ·exact ih
  ·rename_i hne
   refine List.pairwise_cons.2 ⟨fun x hx => ?_, ih⟩
   have hx := cpt_mem.1 hx
   have h1 := h.1 z List.mem_cons_self
   rcases List.mem_cons.1 hx with e | hx
   ·rw [e]; omega
   ·have := (List.pairwise_cons.1 h.2).1 x hx
    omega
def idsR (f : Fnc) : List Int := f.regs.map (·.id)
def idsU (f : Fnc) : List Int := cpt ((idsR f).mergeSort leI)
theorem idsU_lt (f : Fnc) : (idsU f).Pairwise (· < ·) := by
 refine cpt_lt ?_
 have := List.pairwise_mergeSort (le := leI) (fun a b c h1 h2 => by simp only [leI, decide_eq_true_eq] at *; omega) (fun a b => by simp only [leI, Bool.or_eq_true, decide_eq_true_eq]; omega) (idsR f)
 exact this.imp fun h => by simpa [leI] using h
theorem idsU_mem {f : Fnc} {x : Int} : x ∈ idsU f ↔ ∃ g ∈ f.regs, g.id = x := by
 rw [idsU, cpt_mem, (List.mergeSort_perm _ _).mem_iff, idsR, List.mem_map]
theorem srt_of_lt {u : List Int} (h : u.Pairwise (· < ·)) : Srt u := by
 intro i j hij hj
 have := List.pairwise_iff_getElem.1 h i j (by omega) hj hij
 rw [List.getD_eq_getElem?_getD, List.getD_eq_getElem?_getD, List.getElem?_eq_getElem hj, List.getElem?_eq_getElem (by omega)]
 simp only [Option.getD_some]
 omega
theorem idsU_srt {f : Fnc} : Srt (idsU f) := srt_of_lt (idsU_lt f)
/-- The state of the rounds without the variable that says whether something changed. -/
def stM (f : Fnc) (v vi vo : Nat) (rg : List (List AV)) (u : List Int) (L : List (List Bool × List Bool)) : List (Nat × Ob) :=
 (3, .box [.ref 12 0]) :: (12, lvB f v u.length vi vo L.length) :: (1012, .arr v 1 rg) :: (1013, .rarr vi (refsI L.length)) :: (1014, .rarr vo (refsO L.length)) :: objsL u.length 0 L
theorem stM_L {f : Fnc} {v vi vo : Nat} {rg : List (List AV)} {u : List Int} {ch : Bool} {L : List (List Bool × List Bool)} {j : Nat} : optA (stM f v vi vo rg u L) j = if j = 7 then none else optA (stL f v vi vo rg u ch L) j := by
 unfold stM stL
 by_cases e : j = 7
 ·rw [if_pos e, e, optA_ne (by omega), optA_ne (by omega), optA_ne (by omega), optA_ne (by omega), optA_ne (by omega), ob_low (by omega)]
 ·rw [if_neg e]
  by_cases e3 : j = 3
  ·rw [e3, optA_hit, optA_hit]
  ·rw [optA_ne e3, optA_ne e3, optA_ne e]
theorem stL_eq (f : Fnc) (v vi vo : Nat) (rg : List (List AV)) (u : List Int) (ch : Bool) (L : List (List Bool × List Bool)) {X : List AV} (eX : ptP f.blocks = .rp X) : stL f v vi vo rg u ch L =
  (3, .box [.ref 12 0]) :: (7, .pbox [.bool ch]) :: (12, .box [.bool f.machine, .str f.name, .sl (f.regs.map encRg), .sl (f.params.map encO), .sl (f.blocks.map encBk), .rp X, .hs 1012 v 0 u.length, .hs 1013 vi 0 L.length, .hs 1014 vo 0 L.length]) :: (1012, .arr v 1 rg) :: (1013, .rarr vi (refsI L.length)) :: (1014, .rarr vo (refsO L.length)) :: objsL u.length 0 L := by
 unfold stL lvB
 rw [eX]
theorem stM_eq (f : Fnc) (v vi vo : Nat) (rg : List (List AV)) (u : List Int) (L : List (List Bool × List Bool)) {X : List AV} (eX : ptP f.blocks = .rp X) : stM f v vi vo rg u L =
  (3, .box [.ref 12 0]) :: (12, .box [.bool f.machine, .str f.name, .sl (f.regs.map encRg), .sl (f.params.map encO), .sl (f.blocks.map encBk), .rp X, .hs 1012 v 0 u.length, .hs 1013 vi 0 L.length, .hs 1014 vo 0 L.length]) :: (1012, .arr v 1 rg) :: (1013, .rarr vi (refsI L.length)) :: (1014, .rarr vo (refsO L.length)) :: objsL u.length 0 L := by
 unfold stM lvB
 rw [eX]
theorem dropCh {x : St} {rs : List (Nat × AV)} {f : Fnc} {v vi vo : Nat} {rg : List (List AV)} {u : List Int} {ch : Bool} {L : List (List Bool × List Bool)} (hl : L.length < 1000000) (hob : ∀ j, x.ob j = optA (stL f v vi vo rg u ch L) j)
  (hreg : ∀ p ∈ rs, x.reg p.1 = p.2) (hrf : ∀ p ∈ rs, ∀ ob, fz 7 ob p.2 = p.2) : StpB 0 x ⟨rs, stM f v vi vo rg u L⟩ := by
 have a1 : StpB 0 x ⟨rs, x.objs⟩ := .drop .refl (reg_sub hreg) fun j => rfl
 have b1 : (⟨rs, x.objs⟩ : St).ob 7 = some (.pbox [.bool ch]) := by
  show x.ob 7 = _
  rw [hob]
  rfl
 have a2 := a1.frz 7 b1 rfl (Nat.zero_le _)
 refine a2.same ⟨fun i => ?_, fun j => ?_⟩
 ·show getA .dead (fzR _ _ rs) i = getA .dead rs i
  rw [fzR_reg]
  have hd : ∀ (l : List (Nat × AV)), (∀ p ∈ l, ∀ ob, fz 7 ob p.2 = p.2) → ∀ ob, fz 7 ob (getA .dead l i) = getA .dead l i := by
   intro l
   induction l with
   | nil => intro _ ob; simp [getA, fz]
   | cons p l ih =>
    intro h ob
    obtain ⟨a, v⟩ := p
    simp only [getA]
    cases Nat.beq a i with
    | true => exact h (a, v) List.mem_cons_self ob
    | false => exact ih (fun p hp => h p (List.mem_cons_of_mem _ hp)) ob
  exact hd rs hrf _
 ·show optA (fzO _ _ x.objs) j = optA _ j
  rw [fzO_ob, stM_L (ch := ch)]
  by_cases e1 : j = 7
  ·rw [if_pos e1, if_pos e1]
  ·rw [if_neg e1, if_neg e1]
   have : optA x.objs j = _ := hob j
   rw [this]
   cases ho : optA (stL f v vi vo rg u ch L) j with
   | none => rfl
   | some o => simp only [Option.map_some]; rw [fz_stL hl ho (.inr rfl)]
theorem objsL_del {n k i : Nat} {L : List (List Bool × List Bool)} (h : k < 2000000) : delA (objsL n i L) k = objsL n i L := by
 induction L generalizing i with
 | nil => rfl
 | cons x r ih =>
  obtain ⟨a, b⟩ := x
  simp only [objsL, delA]
  rw [beq_ne (by unfold nmA; omega), beq_ne (by unfold nmA; omega), beq_ne (by unfold nmA; omega), beq_ne (by unfold nmA; omega), ih]
  rfl
theorem objs_empty {n k j : Nat} : optA (objsL n 0 (List.replicate k (noneB n, noneB n))) j = optA (objsE n (2 * k)) j := by
 rw [optA_objsL, optA_objsE, List.getElem?_replicate]
 unfold nmA
 by_cases c : 2000000 ≤ j
 ·rw [if_pos (by omega)]
  by_cases c2 : j < 2000000 + 2 * (2 * k)
  ·rw [if_pos (by omega), if_pos (by omega)]
   simp only [Option.map_some, pickS, obE]
   by_cases m0 : j % 4 = 0
   ·rw [if_pos m0, if_pos (by omega)]
   ·rw [if_neg m0]
    by_cases m1 : j % 4 = 1
    ·rw [if_pos m1, if_neg (by omega)]
    ·rw [if_neg m1]
     by_cases m2 : j % 4 = 2
     ·rw [if_pos m2, if_pos (by omega)]
     ·rw [if_neg m2, if_neg (by omega)]
  ·rw [if_neg (by omega), if_neg (by omega)]
   rfl
 ·rw [if_neg (by omega), if_neg (by omega)]
/- live.New. -/
def emptyL (f : Fnc) : List (List Bool × List Bool) := List.replicate f.blocks.length (noneB (idsU f).length, noneB (idsU f).length)
def lastL (f : Fnc) : List (List Bool × List Bool) := finL (idsU f) f (succF f.blocks) (zerL (emptyL f) + 1) (emptyL f)
structure NewOk (f : Fnc) : Prop where
 inn : LvIn f (succF f.blocks)
 pt : PtOk f.blocks
 rl : f.regs.length < 1000000
 lab : ∀ b ∈ f.blocks, b.code.length ≤ 9223372036854775807 ∧ ∀ i ∈ b.code, i.labels.length ≤ 9223372036854775807
theorem C8 (f : Fnc) (h : NewOk f) : Ctr Tryz.prog 8 [.agg (encFn f)] [] (ret [lvP f (idsU f) ((lastL f).map (·.1)) ((lastL f).map (·.2))]) := by
 have hpt := C27 f (by have := h.pt.len; omega) h.pt.sum
 have hgr := C31 f (by have := h.pt.len; omega) h.lab
 apply ctr_b A8_ok rfl (Nat.le_of_ble_eq_true rfl)
 unfold A8
 simp only [initL, Nat.reduceAdd]
 have ⟨X, eX⟩ : ∃ X, ptP f.blocks = .rp X := ⟨_, rfl⟩
 rw [eX] at hpt
 unfold encFn at hpt hgr ⊢
 simp -implicitDefEqProofs (disch := omega) only [↓reduceIte, go_sem, reduceToNat, reduceAdd, reduceLeDiff, reduceEqDiff, reduceSub, reduceMul, reduceCtorEq]
 refine callL hpt ?_
 simp -implicitDefEqProofs (disch := omega) only [↓reduceIte, go_sem, reduceToNat, reduceAdd, reduceLeDiff, reduceEqDiff, reduceSub, reduceMul, reduceCtorEq]
 refine accL (by kernel_rfl) ?_
 simp -implicitDefEqProofs (disch := omega) only [↓reduceIte, go_sem, reduceToNat, reduceAdd, reduceLeDiff, reduceEqDiff, reduceSub, reduceMul, reduceCtorEq]
 refine loopL (σ := Nat) (fun s => ⟨[(1, .rp [.bool f.machine, .str f.name, .sl (f.regs.map encRg), .sl (f.params.map encO), .sl (f.blocks.map encBk)]), (3, .ref 3 0), (14, .sl (f.regs.map encRg)), (15, .int .i64 (f.regs.length : Int)), (16, .int .i64 (s : Int))],
   [(3, .box [.ref 12 0]), (12, .box [.bool f.machine, .str f.name, .sl (f.regs.map encRg), .sl (f.params.map encO), .sl (f.blocks.map encBk), .rp X, .hs 1012 s 0 s, .hs 1013 0 0 0, .hs 1014 0 0 0]), (1012, .arr s 1 (((idsR f).take s).map encN)), (1013, .rarr 0 []), (1014, .rarr 0 [])]⟩)
  (fun s => s ≤ f.regs.length) (fun s => f.regs.length - s) 0 (by simp -implicitDefEqProofs (disch := omega) only [↓reduceIte, go_sem, reduceToNat, reduceAdd, reduceLeDiff, reduceEqDiff, reduceSub, reduceMul, reduceCtorEq]; rfl) (Nat.zero_le _) ?_
 intro s hs
 have hil : (idsR f).length = f.regs.length := by simp [idsR]
 simp -implicitDefEqProofs (disch := omega) only [↓reduceIte, go_sem, reduceToNat, reduceAdd, reduceLeDiff, reduceEqDiff, reduceSub, reduceMul, reduceCtorEq]
 refine ifD (fun c => ?_) (fun c => ?_)
 ·have hb : f.regs[s]? = some f.regs[s] := List.getElem?_eq_getElem (by omega)
  have htk : (idsR f).take (s + 1) = (idsR f).take s ++ [f.regs[s].id] := by
   rw [List.take_add_one, idsR, List.getElem?_map, hb]
   rfl
  have hln : ((idsR f).take s).length = s := by rw [List.length_take]; omega
  generalize (idsR f).take s = FS at htk hln ⊢
  generalize f.regs[s] = g at hb htk
  have hcp : ((s + 1 : Nat) : Int) * ((8 : Nat) : Int) ≤ 70368744177664 := by have := h.rl; omega
  simp -implicitDefEqProofs (disch := omega) only [↓reduceIte, go_sem, reduceToNat, reduceAdd, reduceLeDiff, reduceEqDiff, reduceSub, reduceMul, reduceCtorEq, hb, encRg, hcp, hln]
  refine accL (by kernel_rfl) ?_
  simp -implicitDefEqProofs (disch := omega) only [↓reduceIte, go_sem, reduceToNat, reduceAdd, reduceLeDiff, reduceEqDiff, reduceSub, reduceMul, reduceCtorEq]
  exact ⟨s + 1, by simp only [htk]; simp [encN], by omega, by omega⟩
 ·simp -implicitDefEqProofs (disch := omega) only [↓reduceIte, go_sem, reduceToNat, reduceAdd, reduceLeDiff, reduceEqDiff, reduceSub, reduceMul, reduceCtorEq]
  have hse : s = f.regs.length := by omega
  have htk : (idsR f).take s = idsR f := List.take_of_length_le (by omega)
  rw [htk]
  have hsr := sortC s (idsR f) (by have := h.rl; omega)
  have hse2 : s = (idsR f).length := by omega
  rw [← hse2] at hsr
  have hzl : ((idsR f).mergeSort leI).length = s := by rw [List.length_mergeSort]; omega
  have hcp := C29 s ((idsR f).mergeSort leI) (by have := h.rl; omega)
  rw [hzl] at hcp
  refine callD hsr ?_
  simp -implicitDefEqProofs (disch := omega) only [↓reduceIte, go_sem, reduceToNat, reduceAdd, reduceLeDiff, reduceEqDiff, reduceSub, reduceMul, reduceCtorEq]
  refine callD hcp ?_
  simp -implicitDefEqProofs (disch := omega) only [↓reduceIte, go_sem, reduceToNat, reduceAdd, reduceLeDiff, reduceEqDiff, reduceSub, reduceMul, reduceCtorEq]
  refine accL (by kernel_rfl) ?_
  simp -implicitDefEqProofs (disch := omega) only [↓reduceIte, go_sem, reduceToNat, reduceAdd, reduceLeDiff, reduceEqDiff, reduceSub, reduceMul, reduceCtorEq]
  have hu : cpt ((idsR f).mergeSort leI) = idsU f := rfl
  rw [hu]
  have hul : (idsU f).length ≤ s := by
   rw [← hu, ← hzl]
   exact cpt_len
  have hnw := New' ((idsU f).length : Int) (by have := h.rl; omega)
  rw [show (((idsU f).length : Nat) : Int).toNat = (idsU f).length from rfl] at hnw
  have hrg : (cpR ((idsR f).mergeSort leI)).take (idsU f).length = (idsU f).map encN := by
   rw [cpR, hu, List.take_append_of_le_length (by simp)]
   exact List.take_of_length_le (by simp)
  generalize cpR ((idsR f).mergeSort leI) = rg at hrg ⊢
  refine loopB (σ := Nat) (fun k => ⟨[(1, .rp [.bool f.machine, .str f.name, .sl (f.regs.map encRg), .sl (f.params.map encO), .sl (f.blocks.map encBk)]), (3, .ref 3 0), (47, .int .i64 (f.blocks.length : Int)), (48, .int .i64 (k : Int))],
    stN f s rg (idsU f).length k k (2 * k)⟩) (fun k => k ≤ f.blocks.length) (fun k => f.blocks.length - k) 0 ?_ (Nat.zero_le _) ?_
  ·refine .drop .refl (reg_sub ?_) fun k => ?_
   ·intro p hp
    simp only [List.mem_cons, List.not_mem_nil, or_false] at hp
    rcases hp with rfl | rfl | rfl | rfl <;> (simp -implicitDefEqProofs (disch := omega) only [↓reduceIte, go_sem, reduceToNat, reduceAdd, reduceLeDiff, reduceEqDiff, reduceSub, reduceMul, reduceCtorEq]; try rfl)
   ·show optA _ k = optA _ k
    unfold stN lvN
    rw [eX]
    by_cases k3 : k = 3
    ·rw [k3]; rfl
    by_cases k12 : k = 12
    ·rw [k12]; rfl
    by_cases k1012 : k = 1012
    ·rw [k1012]; rfl
    rw [optA_ne k3, optA_ne k12, optA_ne k1012, optA_ne k12, optA_ne k1012, optA_ne k3]
    rfl
  ·intro k hk
   have hkl : k < 1000000 := by have := h.pt.len; omega
   rw [stN_eq f s rg (idsU f).length k k (2 * k) eX]
   simp -implicitDefEqProofs (disch := omega) only [↓reduceIte, go_sem, reduceToNat, reduceAdd, reduceLeDiff, reduceEqDiff, reduceSub, reduceMul, reduceCtorEq, objsE_low, objsE_del]
   refine ifD (fun c => ?_) (fun c => ?_)
   ·simp -implicitDefEqProofs (disch := omega) only [↓reduceIte, go_sem, reduceToNat, reduceAdd, reduceLeDiff, reduceEqDiff, reduceSub, reduceMul, reduceCtorEq, objsE_low, objsE_del]
    refine callD hnw ?_
    simp -implicitDefEqProofs (disch := omega) only [↓reduceIte, go_sem, reduceToNat, reduceAdd, reduceLeDiff, reduceEqDiff, reduceSub, reduceMul, reduceCtorEq, objsE_low, objsE_del]
    have hcp : ((k + 1 : Nat) : Int) * ((8 : Nat) : Int) ≤ 70368744177664 := by omega
    refine ckL ⟨refsI_len.symm, hcp⟩ ?_
    simp -implicitDefEqProofs (disch := omega) only [↓reduceIte, go_sem, reduceToNat, reduceAdd, reduceLeDiff, reduceEqDiff, reduceSub, reduceMul, reduceCtorEq, objsE_low, objsE_del]
    refine accL (by kernel_rfl) ?_
    simp -implicitDefEqProofs (disch := omega) only [↓reduceIte, go_sem, reduceToNat, reduceAdd, reduceLeDiff, reduceEqDiff, reduceSub, reduceMul, reduceCtorEq, objsE_low, objsE_del]
    refine dynB (nameSet (d := 60) (t := (2 * k)) (n := (idsU f).length) (f := f) (v := s) (rg := rg) (ki := k) (ko := k) (ki' := (k + 1)) (ko' := k) (l := [(1, .rp [.bool f.machine, .str f.name, .sl (f.regs.map encRg), .sl (f.params.map encO), .sl (f.blocks.map encBk)]), (3, .ref 3 0), (47, .int .i64 (f.blocks.length : Int)), (48, .int .i64 (k : Int))]) (by omega) ?_ ?_ rfl rfl ?_ ?_ ?_ rfl ?_) ?_
    ·intro j n1 n2 n3 n4 n5 n6
     rw [stN_eq f s rg (idsU f).length _ _ _ eX]
     show optA _ j = optA _ j
     rw [optA_ne n4, optA_ne n5, optA_ne n3, optA_ne n2, optA_ne n1]
     by_cases j3 : j = 3
     ·rw [j3]; rfl
     by_cases j1012 : j = 1012
     ·rw [j1012]; rfl
     rw [optA_ne j3, optA_ne j1012, optA_ne n6, optA_ne j3, optA_ne n4, optA_ne j1012, optA_ne n5, optA_ne n6]
    ·rw [lvN_eq f s (idsU f).length _ _ eX]
     rfl
    ·show renL _ (refsI k ++ [.ref 60 0]) = _
     rw [renL_append, refsI_snoc, refsI, ren_refs]
     ·simp only [renL, ren, optA_mN, if_pos]
      rw [show 2000000 + 2 * (2 * k) = nmA k by unfold nmA; omega]
     ·intro i hi
      have := List.mem_range.1 hi
      rw [optA_mN, if_neg (by unfold nmA; omega), if_neg (by unfold nmA; omega), if_pos (mem_ksN.2 (by unfold nmA; omega))]
    ·show renL _ (refsO k) = _
     rw [refsO, ren_refs (a := fun i => nmA i + 2)]
     intro i hi
     have := List.mem_range.1 hi
     rw [optA_mN, if_neg (by unfold nmA; omega), if_neg (by unfold nmA; omega), if_pos (mem_ksN.2 (by unfold nmA; omega))]
    ·rfl
    ·intro p hp
     simp only [List.mem_cons, List.not_mem_nil, or_false] at hp
     rcases hp with rfl | rfl | rfl | rfl <;> (simp -implicitDefEqProofs (disch := omega) only [↓reduceIte, go_sem, reduceToNat, reduceAdd, reduceLeDiff, reduceEqDiff, reduceSub, reduceMul, reduceCtorEq]; try rfl)
    rw [stN_eq f s rg (idsU f).length (k + 1) k (2 * k + 1) eX]
    simp -implicitDefEqProofs (disch := omega) only [↓reduceIte, go_sem, reduceToNat, reduceAdd, reduceLeDiff, reduceEqDiff, reduceSub, reduceMul, reduceCtorEq, objsE_low, objsE_del]
    refine callD hnw ?_
    simp -implicitDefEqProofs (disch := omega) only [↓reduceIte, go_sem, reduceToNat, reduceAdd, reduceLeDiff, reduceEqDiff, reduceSub, reduceMul, reduceCtorEq, objsE_low, objsE_del]
    refine ckL ⟨refsO_len.symm, hcp⟩ ?_
    simp -implicitDefEqProofs (disch := omega) only [↓reduceIte, go_sem, reduceToNat, reduceAdd, reduceLeDiff, reduceEqDiff, reduceSub, reduceMul, reduceCtorEq, objsE_low, objsE_del]
    refine accL (by kernel_rfl) ?_
    simp -implicitDefEqProofs (disch := omega) only [↓reduceIte, go_sem, reduceToNat, reduceAdd, reduceLeDiff, reduceEqDiff, reduceSub, reduceMul, reduceCtorEq, objsE_low, objsE_del]
    refine dynB (nameSet (d := 75) (t := (2 * k + 1)) (n := (idsU f).length) (f := f) (v := s) (rg := rg) (ki := (k + 1)) (ko := k) (ki' := (k + 1)) (ko' := (k + 1)) (l := [(1, .rp [.bool f.machine, .str f.name, .sl (f.regs.map encRg), .sl (f.params.map encO), .sl (f.blocks.map encBk)]), (3, .ref 3 0), (47, .int .i64 (f.blocks.length : Int)), (48, .int .i64 (k : Int))]) (by omega) ?_ ?_ rfl rfl ?_ ?_ ?_ rfl ?_) ?_
    ·intro j n1 n2 n3 n4 n5 n6
     rw [stN_eq f s rg (idsU f).length _ _ _ eX]
     show optA _ j = optA _ j
     rw [optA_ne n4, optA_ne n6, optA_ne n3, optA_ne n2, optA_ne n1]
     by_cases j3 : j = 3
     ·rw [j3]; rfl
     by_cases j1012 : j = 1012
     ·rw [j1012]; rfl
     rw [optA_ne j3, optA_ne j1012, optA_ne n5, optA_ne j3, optA_ne n4, optA_ne j1012, optA_ne n5, optA_ne n6]
    ·rw [lvN_eq f s (idsU f).length _ _ eX]
     rfl
    ·show renL _ (refsI (k + 1)) = _
     rw [refsI, ren_refs]
     intro i hi
     have := List.mem_range.1 hi
     rw [optA_mN, if_neg (by unfold nmA; omega), if_neg (by unfold nmA; omega), if_pos (mem_ksN.2 (by unfold nmA; omega))]
    ·show renL _ (refsO k ++ [.ref 75 0]) = _
     rw [renL_append, refsO_snoc, refsO, ren_refs (a := fun i => nmA i + 2)]
     ·simp only [renL, ren, optA_mN, if_pos]
      rw [show 2000000 + 2 * (2 * k + 1) = nmA k + 2 by unfold nmA; omega]
     ·intro i hi
      have := List.mem_range.1 hi
      rw [optA_mN, if_neg (by unfold nmA; omega), if_neg (by unfold nmA; omega), if_pos (mem_ksN.2 (by unfold nmA; omega))]
    ·rfl
    ·intro p hp
     simp only [List.mem_cons, List.not_mem_nil, or_false] at hp
     rcases hp with rfl | rfl | rfl | rfl <;> (simp -implicitDefEqProofs (disch := omega) only [↓reduceIte, go_sem, reduceToNat, reduceAdd, reduceLeDiff, reduceEqDiff, reduceSub, reduceMul, reduceCtorEq]; try rfl)
    rw [show 2 * k + 1 + 1 = 2 * (k + 1) by omega]
    simp -implicitDefEqProofs (disch := omega) only [↓reduceIte, go_sem, reduceToNat, reduceAdd, reduceLeDiff, reduceEqDiff, reduceSub, reduceMul, reduceCtorEq]
    refine ⟨k + 1, .drop .refl (reg_sub ?_) fun j => rfl, by omega, by omega⟩
    intro p hp
    simp only [List.mem_cons, List.not_mem_nil, or_false] at hp
    rcases hp with rfl | rfl | rfl | rfl <;> (simp -implicitDefEqProofs (disch := omega) only [↓reduceIte, go_sem, reduceToNat, reduceAdd, reduceLeDiff, reduceEqDiff, reduceSub, reduceMul, reduceCtorEq]; try rfl)
   ·have hkn : k = f.blocks.length := by omega
    simp -implicitDefEqProofs (disch := omega) only [↓reduceIte, go_sem, reduceToNat, reduceAdd, reduceLeDiff, reduceEqDiff, reduceSub, reduceMul, reduceCtorEq, objsE_low, objsE_del]
    have hgl : ∀ S P, ∃ G, grP S P = .rp G := fun S P => ⟨_, rfl⟩
    refine callL hgr ?_
    have ⟨G, eG⟩ := hgl (succF f.blocks) (predF (succF f.blocks))
    rw [eG]
    simp -implicitDefEqProofs (disch := omega) only [↓reduceIte, go_sem, reduceToNat, reduceAdd, reduceLeDiff, reduceEqDiff, reduceSub, reduceMul, reduceCtorEq, objsE_low, objsE_del, objsE_fz, refsI_fz, refsO_fz]
    have hEl : (emptyL f).length = k := by rw [emptyL, List.length_replicate, hkn]
    have hE0 : LvL f (idsU f) (emptyL f) := ⟨by rw [emptyL, List.length_replicate], fun x hx => by
     have := List.eq_of_mem_replicate hx
     rw [this]
     exact ⟨noneB_len, noneB_len⟩⟩
    have hR := (C32 f s k k rg (idsU f) false · (succF f.blocks) (predF (succF f.blocks)) h.inn · (by have := h.rl; omega) hrg idsU_srt)
    have hL := fun L (hL : LvL f (idsU f) L) => hR L hL
    clear hR
    rw [eG] at hL
    refine loopB (σ := Bool × Nat × List (List Bool × List Bool)) (fun x => ⟨[(1, .rp [.bool f.machine, .str f.name, .sl (f.regs.map encRg), .sl (f.params.map encO), .sl (f.blocks.map encBk)]), (3, .ref 3 0), (6, .rp [.rp G]), (7, .ref 7 0)],
     stL f s k k rg (idsU f) x.1 x.2.2⟩) (fun x => LvL f (idsU f) x.2.2 ∧ (x.1 = true → finL (idsU f) f (succF f.blocks) x.2.1 x.2.2 = lastL f ∧ zerL x.2.2 < x.2.1) ∧ (x.1 = false → x.2.2 = lastL f)) (fun x => if x.1 = true then zerL x.2.2 + 1 else 0) (true, zerL (emptyL f) + 1, emptyL f) ?_ ⟨hE0, fun _ => ⟨rfl, Nat.lt_succ_self _⟩, fun e => by cases e⟩ ?_
    ·refine .drop .refl (reg_sub ?_) fun j => ?_
     ·intro p hp
      simp only [List.mem_cons, List.not_mem_nil, or_false] at hp
      rcases hp with rfl | rfl | rfl | rfl <;> (simp -implicitDefEqProofs (disch := omega) only [↓reduceIte, go_sem, reduceToNat, reduceAdd, reduceLeDiff, reduceEqDiff, reduceSub, reduceMul, reduceCtorEq]; try rfl)
     ·show optA _ j = optA _ j
      unfold stL lvB
      rw [eX, hEl]
      by_cases j3 : j = 3
      ·rw [j3]; rfl
      by_cases j7 : j = 7
      ·rw [j7]; rfl
      rw [optA_ne j3, optA_ne j7, optA_ne j7, optA_ne j3]
      simp only [optA]
      rw [emptyL, objs_empty, ← hkn]
    ·intro x hx
     obtain ⟨ch, fu, L⟩ := x
     have hx : LvL f (idsU f) L ∧ (ch = true → finL (idsU f) f (succF f.blocks) fu L = lastL f ∧ zerL L < fu) ∧ (ch = false → L = lastL f) := hx
     have hbk := hL L hx.1
     have hz := fun e => rnd1_zer (S := succF f.blocks) hx.1 e
     have hl1 := rnd1_L (S := succF f.blocks) hx.1
     have hr1 : rndJ (idsU f) f (succF f.blocks) (false, L) f.blocks.length = rnd1 (idsU f) f (succF f.blocks) L := rfl
     rw [hr1] at hbk
     have hfin : finL (idsU f) f (succF f.blocks) (fu + 1) L = if (rnd1 (idsU f) f (succF f.blocks) L).1 = true then finL (idsU f) f (succF f.blocks) fu (rnd1 (idsU f) f (succF f.blocks) L).2 else (rnd1 (idsU f) f (succF f.blocks) L).2 := rfl
     have hfin0 : fu ≠ 0 → finL (idsU f) f (succF f.blocks) fu L = if (rnd1 (idsU f) f (succF f.blocks) L).1 = true then finL (idsU f) f (succF f.blocks) (fu - 1) (rnd1 (idsU f) f (succF f.blocks) L).2 else (rnd1 (idsU f) f (succF f.blocks) L).2 := fun h => by
      cases fu with
      | zero => exact absurd rfl h
      | succ n => rfl
     clear hfin
     have hbk := CtrG.out (res := []) hbk fun r o h => ⟨h.1, funext h.2⟩
     have hbk := CtrG.same (objs2 := (7, .pbox [.bool false]) :: stM f s k k rg (idsU f) L) hbk (funext fun j => by
      by_cases e : j = 7
      ·rw [e]; rfl
      ·rw [optA_ne e, stM_L (ch := false), if_neg e])
     rw [stM_eq f s k k rg (idsU f) L eX] at hbk
     rw [stL_eq f s k k rg (idsU f) ch L eX]
     generalize rnd1 (idsU f) f (succF f.blocks) L = y at hbk hz hl1 hfin0
     simp -implicitDefEqProofs (disch := omega) only [↓reduceIte, go_sem, reduceToNat, reduceAdd, reduceLeDiff, reduceEqDiff, reduceSub, reduceMul, reduceCtorEq, ob_low, objsL_del]
     refine ifB (fun e => ?_) (fun e => ?_)
     ·simp -implicitDefEqProofs (disch := omega) only [↓reduceIte, go_sem, reduceToNat, reduceAdd, reduceLeDiff, reduceEqDiff, reduceSub, reduceMul, reduceCtorEq, ob_low, objsL_del]
      refine callG hbk ?_
      have e7 : optA (stL f s k k rg (idsU f) y.1 y.2) 7 = some (.pbox [.bool y.1]) := rfl
      simp -implicitDefEqProofs (disch := omega) only [↓reduceIte, go_sem, reduceToNat, reduceAdd, reduceLeDiff, reduceEqDiff, reduceSub, reduceMul, reduceCtorEq, e7]
      have hyl : y.2.length < 1000000 := by rw [hl1.len]; have := h.pt.len; omega
      refine dynB (dropCh (rs := [(1, .rp [.bool f.machine, .str f.name, .sl (f.regs.map encRg), .sl (f.params.map encO), .sl (f.blocks.map encBk)]), (3, .ref 3 0), (6, .rp [.rp G]), (88, .bool y.1)]) hyl (fun j => rfl) ?_ ?_) ?_
      ·intro p hp
       simp only [List.mem_cons, List.not_mem_nil, or_false] at hp
       rcases hp with rfl | rfl | rfl | rfl <;> (simp -implicitDefEqProofs (disch := omega) only [↓reduceIte, go_sem, reduceToNat, reduceAdd, reduceLeDiff, reduceEqDiff, reduceSub, reduceMul, reduceCtorEq]; try rfl)
      ·intro p hp ob
       simp only [List.mem_cons, List.not_mem_nil, or_false] at hp
       rcases hp with rfl | rfl | rfl | rfl <;> rfl
      ·rw [stM_eq f s k k rg (idsU f) y.2 eX]
       simp -implicitDefEqProofs (disch := omega) only [↓reduceIte, go_sem, reduceToNat, reduceAdd, reduceLeDiff, reduceEqDiff, reduceSub, reduceMul, reduceCtorEq, ob_low, objsL_del]
       refine ⟨(y.1, fu - 1, y.2), .drop .refl (reg_sub ?_) fun j => ?_, ⟨hl1, fun q => ?_, fun q => ?_⟩, ?_⟩
       ·intro p hp
        simp only [List.mem_cons, List.not_mem_nil, or_false] at hp
        rcases hp with rfl | rfl | rfl | rfl <;> (simp -implicitDefEqProofs (disch := omega) only [↓reduceIte, go_sem, reduceToNat, reduceAdd, reduceLeDiff, reduceEqDiff, reduceSub, reduceMul, reduceCtorEq]; try rfl)
       ·rw [stL_eq f s k k rg (idsU f) y.1 y.2 eX]
        show optA _ j = optA _ j
        by_cases j7 : j = 7
        ·rw [j7]; rfl
        ·by_cases j3 : j = 3
         ·rw [j3]; rfl
         ·rw [optA_ne j3, optA_ne j7, optA_ne j7, optA_ne j3]
       ·have h1 := hx.2.1 e
        have h2 := hz q
        have h3 := hfin0 (by omega)
        have q' : y.1 = true := q
        rw [if_pos q'] at h3
        refine ⟨h3.symm.trans h1.1, ?_⟩
        show zerL y.2 < fu - 1
        omega
       ·have h1 := hx.2.1 e
        have h3 := hfin0 (by omega)
        have q' : ¬ y.1 = true := by
         have : y.1 = false := q
         rw [this]
         decide
        rw [if_neg q'] at h3
        exact h3.symm.trans h1.1
       ·show (if y.1 = true then zerL y.2 + 1 else 0) < if ch = true then zerL L + 1 else 0
        rw [if_pos e]
        split
        ·rename_i q
         have := hz q
         omega
        ·omega
     ·simp -implicitDefEqProofs (disch := omega) only [↓reduceIte, go_sem, reduceToNat, reduceAdd, reduceLeDiff, reduceEqDiff, reduceSub, reduceMul, reduceCtorEq, ob_low, objsL_del]
      have hLf := hx.2.2 e
      have hLl : L.length = k := by rw [hx.1.len, hkn]
      refine dynB (StpB.trans (dropCh (rs := [(2, .ref 12 0)]) (f := f) (v := s) (vi := k) (vo := k) (rg := rg) (u := idsU f) (ch := ch) (L := L) (by omega) (fun j => ?_) ?_ ?_) (StpB.trans (StpB.drop (y := stZ (.rp X) f s k k rg (idsU f).length L.length [] L) .refl (fun i => .inl rfl) fun j => ?_) (frz_live (X := X) (f := f) (v := s) (vi := k) (vo := k) (rg := rg) (u := idsU f) (L := L) eX hrg hx.1.all))) ?_
      ·rw [stL_eq f s k k rg (idsU f) ch L eX]
       rfl
      ·intro p hp
       simp only [List.mem_cons, List.not_mem_nil, or_false] at hp
       rcases hp with rfl
       simp -implicitDefEqProofs (disch := omega) only [↓reduceIte, go_sem, reduceToNat, reduceAdd, reduceLeDiff, reduceEqDiff, reduceSub, reduceMul, reduceCtorEq]
      ·intro p hp ob
       simp only [List.mem_cons, List.not_mem_nil, or_false] at hp
       rcases hp with rfl
       rfl
      ·rw [stM_eq f s k k rg (idsU f) L eX]
       show optA _ j = optA _ j
       rw [refsI_F, refsO_F]
       rfl
      ·rw [hLf]
       simp -implicitDefEqProofs (disch := omega) only [↓reduceIte, go_sem, reduceToNat, reduceAdd, reduceLeDiff, reduceEqDiff, reduceSub, reduceMul, reduceCtorEq]
       exact ⟨rfl, rfl⟩
/- The reference of the points, and what an instruction takes from; who is known. -/
/-- The reference's answer of a point. -/
def pntR (bs : List Blk) (p : Int) : Int × Int × Bool × Bool :=
 if p < 0 ∨ 2 * (sumTo bs bs.length : Int) ≤ p then (-1, -1, false, false)
 else if p % 2 = 0 then ((whereP bs (p / 2)).1, (whereP bs (p / 2)).2, false, true)
 else ((whereP bs (p / 2)).1, (whereP bs (p / 2)).2, true, !decide ((whereP bs (p / 2)).2 = (lenP bs (whereP bs (p / 2)).1) - 1))
theorem where_at {bs : List Blk} {b i : Nat} {B : Blk} (hb : bs[b]? = some B) (hi : i < B.code.length) : whereP bs ((sumTo bs b + i : Nat) : Int) = ((b : Int), (i : Int)) ∧ sumTo bs b + i < sumTo bs bs.length := by
 have hlt := (List.getElem?_eq_some_iff.1 hb).1
 have h1 := sumTo_succ hb
 have h2 := sumTo_max (bs := bs) (b := b + 1)
 have hw := whB_of (n := ((sumTo bs b + i : Nat) : Int)) hlt (by omega) (by omega)
 refine ⟨?_, by omega⟩
 unfold whereP
 rw [if_neg (by omega), hw]
 simp only [Prod.mk.injEq, true_and]
 omega
theorem len_at {bs : List Blk} {b : Nat} {B : Blk} (hb : bs[b]? = some B) : lenP bs (b : Int) = (B.code.length : Int) := by
 have hlt := (List.getElem?_eq_some_iff.1 hb).1
 have h1 := sumTo_succ hb
 unfold lenP
 rw [if_pos (by omega), Int.toNat_natCast]
 omega
theorem pnt_even {bs : List Blk} {b i : Nat} {B : Blk} (hb : bs[b]? = some B) (hi : i < B.code.length) : pntR bs (2 * ((sumTo bs b + i : Nat) : Int)) = ((b : Int), (i : Int), false, true) := by
 have ⟨h1, h2⟩ := where_at hb hi
 unfold pntR
 rw [if_neg (by omega), if_pos (by omega), show 2 * ((sumTo bs b + i : Nat) : Int) / 2 = ((sumTo bs b + i : Nat) : Int) by omega, h1]
theorem pnt_odd {bs : List Blk} {b i : Nat} {B : Blk} (hb : bs[b]? = some B) (hi : i < B.code.length) : pntR bs (2 * ((sumTo bs b + i : Nat) : Int) + 1) = ((b : Int), (i : Int), true, !decide ((i : Int) = (B.code.length : Int) - 1)) := by
 have ⟨h1, h2⟩ := where_at hb hi
 unfold pntR
 rw [if_neg (by omega), if_neg (by omega), show (2 * ((sumTo bs b + i : Nat) : Int) + 1) / 2 = ((sumTo bs b + i : Nat) : Int) by omega, h1, len_at hb]
def takesX (x : Ins) (v : Int) : Bool := x.args.any fun a => decide (a.kind = 1) && decide (a.n = v)
def knownF (f : Fnc) (v : Int) : Bool := f.regs.any fun g => decide (g.id = v)
/- The reference's search, and Wanted. -/
def givesX (x : Ins) (v : Int) : Bool := decide (x.dst.kind = 1) && decide (x.dst.n = v)
def scanL (v : Int) : List Ins → Option Bool
 | [] => none
 | x :: l => if takesX x v = true then some true else if givesX x v = true then some false else scanL v l
def goS (g : Nat → List Bool → Bool × List Bool) : List Nat → List Bool → Bool × List Bool
 | [], seen => (false, seen)
 | s :: l, seen => if seen.getD s false = true then goS g l seen else if (g s (seen.set s true)).1 = true then (true, (g s (seen.set s true)).2) else goS g l (g s (seen.set s true)).2
def srch (f : Fnc) (S : List (List Nat)) (v : Int) : Nat → Nat → Nat → List Bool → Bool × List Bool
 | 0, _, _, seen => (false, seen)
 | k + 1, b, i, seen => match scanL v ((blkAt f b).code.drop i) with
  | some r => (r, seen)
  | none => goS (fun s seen => srch f S v k s 0 seen) (rowAt S b) seen
theorem goS_spec {g : Nat → List Bool → Bool × List Bool} (hg : ∀ s seen, (g s seen).2.length = seen.length ∧ ∀ j : Nat, seen.getD j false = true → (g s seen).2.getD j false = true) : ∀ {l : List Nat} {seen : List Bool}, (goS g l seen).2.length = seen.length ∧ ∀ j : Nat, seen.getD j false = true → (goS g l seen).2.getD j false = true
 | [], seen => ⟨rfl, fun j h => h⟩
 | s :: l, seen => by
  have hset : ∀ j : Nat, seen.getD j false = true → (seen.set s true).getD j false = true := fun j h => by
   rw [List.getD_eq_getElem?_getD, List.getElem?_set] at *
   split
   ·split
    ·rfl
    ·rename_i e hn
     rw [← e, List.getElem?_eq_none (by omega)] at h
     cases h
   ·exact h
  have h1 := hg s (seen.set s true)
  have h2 := goS_spec hg (l := l) (seen := seen)
  have h3 := goS_spec hg (l := l) (seen := (g s (seen.set s true)).2)
  simp only [goS]
  rw [List.length_set] at h1
  split
  ·exact h2
  ·split
   ·exact ⟨h1.1, fun j h => h1.2 j (hset j h)⟩
   ·exact ⟨h3.1.trans h1.1, fun j h => h3.2 j (h1.2 j (hset j h))⟩
theorem srch_spec {f : Fnc} {S : List (List Nat)} {v : Int} : ∀ {k b i : Nat} {seen : List Bool}, (srch f S v k b i seen).2.length = seen.length ∧ ∀ j : Nat, seen.getD j false = true → (srch f S v k b i seen).2.getD j false = true
 | 0, _, _, _ => ⟨rfl, fun j h => h⟩
 | k + 1, b, i, seen => by
  simp only [srch]
  split
  ·exact ⟨rfl, fun j h => h⟩
  ·exact goS_spec fun s seen => srch_spec (k := k)
theorem set_count {seen : List Bool} {s : Nat} (hs : s < seen.length) (h : seen.getD s false = false) : (seen.set s true).count false + 1 = seen.count false := by
 induction seen generalizing s with
 | nil => simp at hs
 | cons x l ih =>
  cases s with
  | zero =>
   have : x = false := by simpa using h
   subst this
   simp [List.count_cons]
  | succ s =>
   have := ih (s := s) (by simpa using hs) (by simpa using h)
   simp only [List.set_cons_succ, List.count_cons]
   omega
def wantB (f : Fnc) (S : List (List Nat)) (b i : Nat) (v : Int) : Bool := knownF f v && (srch f S v (f.blocks.length + 1) b i (List.replicate f.blocks.length false)).1
/- The reference's Present, All and Spans. -/
/-- A point: its block, its instruction, whether it is behind that. -/
def PtAt (bs : List Blk) (p : Int) (b i : Nat) (o : Bool) : Prop := ∃ B, bs[b]? = some B ∧ i < B.code.length ∧ p = 2 * ((sumTo bs b + i : Nat) : Int) + (if o = true then 1 else 0) ∧ (o = true → i + 1 < B.code.length)
theorem PtAt.pnt {bs : List Blk} {p : Int} {b i : Nat} {o : Bool} (h : PtAt bs p b i o) : pntR bs p = ((b : Int), (i : Int), o, true) := by
 have ⟨B, hB, hi, hp, ho⟩ := h
 cases o with
 | false =>
  rw [if_neg (by decide), Int.add_zero] at hp
  rw [hp, pnt_even hB hi]
 | true =>
  rw [if_pos rfl] at hp
  have := ho rfl
  rw [hp, pnt_odd hB hi, decide_eq_false (by omega)]
  rfl
theorem PtAt.blk {bs : List Blk} {p : Int} {b i : Nat} {o : Bool} (h : PtAt bs p b i o) : blockP bs p = (b : Int) ∧ whereP bs (p / 2) = ((b : Int), (i : Int)) ∧ (p % 2 == 1) = o := by
 have ⟨B, hB, hi, hp, ho⟩ := h
 have ⟨h1, h2⟩ := where_at hB hi
 have hq : p / 2 = ((sumTo bs b + i : Nat) : Int) := by
  cases o with
  | false => rw [if_neg (by decide)] at hp; omega
  | true => rw [if_pos rfl] at hp; omega
 have hm : (p % 2 == 1) = o := by
  cases o with
  | false => rw [if_neg (by decide)] at hp; simp; omega
  | true => rw [if_pos rfl] at hp; simp; omega
 refine ⟨?_, by rw [hq]; exact h1, hm⟩
 unfold blockP
 rw [hq, h1]
 have h0 : ¬ p < 0 := by
  cases o with
  | false => rw [if_neg (by decide)] at hp; omega
  | true => rw [if_pos rfl] at hp; omega
 rw [if_neg h0, if_neg]
 rintro ⟨_, c1, c2⟩
 have ho' : o = true := by
  rw [← hm]
  simp [c1]
 have := ho ho'
 unfold behindP ofP at c2
 rw [len_at hB, Int.toNat_natCast, if_neg (by simp only; omega), if_neg (by simp only; omega), if_neg (by simp only; omega)] at c2
 simp only at c2
 omega
theorem pt_none {bs : List Blk} {p : Int} (h : ∀ b i o, ¬ PtAt bs p b i o) : blockP bs p < 0 ∧ (pntR bs p).2.2.2 = false := by
 by_cases c : p < 0 ∨ 2 * (sumTo bs bs.length : Int) ≤ p
 ·refine ⟨?_, by unfold pntR; rw [if_pos c]⟩
  unfold blockP
  by_cases c1 : p < 0
  ·rw [if_pos c1]; omega
  ·rw [if_neg c1]
   split
   ·omega
   ·unfold whereP
    rw [if_pos (by omega)]
    omega
 ·have ⟨_, w1, w2, w3⟩ := whB_spec (bs := bs) (n := p / 2) (by omega) (by omega)
  have hB := List.getElem?_eq_getElem w1
  have hsu := sumTo_succ hB
  generalize bs[whB bs (p / 2)] = B at hB hsu
  generalize whB bs (p / 2) = b at hB hsu w1 w2 w3
  have hi : (p / 2 - (sumTo bs b : Int)).toNat < B.code.length := by omega
  have hiz : ((p / 2 - (sumTo bs b : Int)).toNat : Int) = p / 2 - (sumTo bs b : Int) := by omega
  generalize (p / 2 - (sumTo bs b : Int)).toNat = i at hi hiz
  by_cases hm : p % 2 = 0
  ·exact absurd ⟨B, hB, hi, by rw [if_neg (by decide)]; omega, fun e => by cases e⟩ (h b i false)
  ·have hp : p = 2 * ((sumTo bs b + i : Nat) : Int) + 1 := by omega
   have hl : ¬ i + 1 < B.code.length := fun c2 => h b i true ⟨B, hB, hi, by rw [if_pos rfl]; exact hp, fun _ => c2⟩
   have ⟨h1, h2⟩ := where_at hB hi
   refine ⟨?_, by rw [hp, pnt_odd hB hi, decide_eq_true (by omega)]; rfl⟩
   unfold blockP
   rw [show p / 2 = ((sumTo bs b + i : Nat) : Int) by omega, h1, if_neg (by omega), if_pos]
   ·omega
   ·refine ⟨by simp only; omega, by omega, ?_⟩
    unfold behindP
    rw [len_at hB, if_pos (by simp only; omega)]
    omega
def insAtF (f : Fnc) (b i : Nat) : Ins := (blkAt f b).code.getD i ins0
def presB (f : Fnc) (S : List (List Nat)) (p v : Int) : Bool :=
 if (pntR f.blocks p).2.2.2 = true then
  if (pntR f.blocks p).2.2.1 = true then (knownF f v && givesX (insAtF f (pntR f.blocks p).1.toNat (pntR f.blocks p).2.1.toNat) v) || wantB f S (pntR f.blocks p).1.toNat ((pntR f.blocks p).2.1.toNat + 1) v
  else wantB f S (pntR f.blocks p).1.toNat (pntR f.blocks p).2.1.toNat v
 else false
theorem presB_none {f : Fnc} {S : List (List Nat)} {p v : Int} (h : ∀ b i o, ¬ PtAt f.blocks p b i o) : presB f S p v = false := by
 unfold presB
 rw [(pt_none h).2]
 rfl
theorem presB_at {f : Fnc} {S : List (List Nat)} {p v : Int} {b i : Nat} {o : Bool} (h : PtAt f.blocks p b i o) : presB f S p v = if o = true then (knownF f v && givesX (insAtF f b i) v) || wantB f S b (i + 1) v else wantB f S b i v := by
 unfold presB
 rw [h.pnt]
 simp only [if_true, Int.toNat_natCast]
theorem blkAt_get {f : Fnc} {b : Nat} {B : Blk} (h : f.blocks[b]? = some B) : blkAt f b = B := by rw [blkAt, List.getD_eq_getElem?_getD, h]; rfl
/- The reference's All, Spans; the law's same. -/
theorem inZ (u : List Int) (x : Int) (hl : u.length < 1000000) : Ctr Tryz.prog 11 [.sl (u.map encN), .int .i64 x] [] (ret [.bool (decide (x ∈ u))]) := by
 apply ctr_b A11_ok rfl (Nat.le_of_ble_eq_true rfl)
 unfold A11
 simp only [initL, Nat.reduceAdd]
 simp -implicitDefEqProofs (disch := omega) only [↓reduceIte, go_sem, reduceToNat, reduceAdd, reduceLeDiff, reduceEqDiff, reduceSub, reduceMul, reduceCtorEq]
 refine loopL (σ := Nat) (fun s => ⟨[(0, .sl (u.map encN)), (1, .int .i64 x), (5, .int .i64 s)], []⟩) (fun s => s ≤ u.length ∧ x ∉ u.take s) (fun s => u.length - s) 0 (by simp -implicitDefEqProofs (disch := omega) only [↓reduceIte, go_sem, reduceToNat, reduceAdd, reduceLeDiff, reduceEqDiff, reduceSub, reduceMul, reduceCtorEq]; rfl) ⟨by omega, by simp⟩ ?_
 rintro s ⟨h1, h2⟩
 simp -implicitDefEqProofs (disch := omega) only [↓reduceIte, go_sem, reduceToNat, reduceAdd, reduceLeDiff, reduceEqDiff, reduceSub, reduceMul, reduceCtorEq]
 refine ifD (fun c => ?_) (fun c => ?_)
 ·have hg : u[s]? = some u[s] := List.getElem?_eq_getElem (by omega)
  have hm := List.mem_of_getElem? hg
  have htk := snoc_take hg
  generalize u[s] = y at hg hm htk
  simp -implicitDefEqProofs (disch := omega) only [↓reduceIte, go_sem, reduceToNat, reduceAdd, reduceLeDiff, reduceEqDiff, reduceSub, reduceMul, reduceCtorEq, hg, encN]
  refine ifE (fun e => ?_) (fun e => ?_)
  ·simp -implicitDefEqProofs (disch := omega) only [↓reduceIte, go_sem, reduceToNat, reduceAdd, reduceLeDiff, reduceEqDiff, reduceSub, reduceMul, reduceCtorEq]
   rw [decide_eq_true (e ▸ hm)]
   exact ⟨rfl, rfl⟩
  ·simp -implicitDefEqProofs (disch := omega) only [↓reduceIte, go_sem, reduceToNat, reduceAdd, reduceLeDiff, reduceEqDiff, reduceSub, reduceMul, reduceCtorEq]
   refine ⟨s + 1, by simp, ⟨by omega, ?_⟩, by omega⟩
   rw [htk, List.mem_append, List.mem_singleton]
   rintro (h | h)
   ·exact h2 h
   ·exact e h.symm
 ·simp -implicitDefEqProofs (disch := omega) only [↓reduceIte, go_sem, reduceToNat, reduceAdd, reduceLeDiff, reduceEqDiff, reduceSub, reduceMul, reduceCtorEq]
  rw [List.take_of_length_le (by omega)] at h2
  rw [decide_eq_false h2]
  exact ⟨rfl, rfl⟩
/- The reference's Spans; the law's same. -/
/- What is wanted: plain; the search finds it. -/
/-- There is a way from instruction i of block b on which v is taken from ahead of being given to. -/
inductive Wnt (f : Fnc) (S : List (List Nat)) (v : Int) : Nat → Nat → Prop
 | loc {b i : Nat} : scanL v ((blkAt f b).code.drop i) = some true → Wnt f S v b i
 | go {b i s : Nat} : scanL v ((blkAt f b).code.drop i) = none → s ∈ rowAt S b → Wnt f S v s 0 → Wnt f S v b i
section
variable {f : Fnc} {S : List (List Nat)} {v : Int}
theorem goS_sound {P : Nat → Prop} {g : Nat → List Bool → Bool × List Bool} (hg : ∀ s seen, (g s seen).1 = true → P s) : ∀ {l : List Nat} {seen : List Bool}, (goS g l seen).1 = true → ∃ s ∈ l, P s
 | [], seen, h => by cases h
 | s :: l, seen, h => by
  simp only [goS] at h
  split at h
  ·have ⟨t, ht, p⟩ := goS_sound hg h
   exact ⟨t, List.mem_cons_of_mem _ ht, p⟩
  ·split at h
   ·rename_i e
    exact ⟨s, List.mem_cons_self, hg _ _ e⟩
   ·have ⟨t, ht, p⟩ := goS_sound hg h
    exact ⟨t, List.mem_cons_of_mem _ ht, p⟩
theorem srch_sound : ∀ {k b i : Nat} {seen : List Bool}, (srch f S v k b i seen).1 = true → Wnt f S v b i
 | 0, _, _, _, h => by cases h
 | k + 1, b, i, seen, h => by
  simp only [srch] at h
  split at h
  ·rename_i r e
   have : r = true := h
   subst this
   exact .loc e
  ·rename_i e
   have ⟨s, hs, hw⟩ := goS_sound (P := fun s => Wnt f S v s 0) (fun s seen h => srch_sound (k := k) h) h
   exact .go e hs hw
/-- A block from which nothing new is found. -/
def Cl (f : Fnc) (S : List (List Nat)) (v : Int) (b i : Nat) (X : List Bool) : Prop :=
 scanL v ((blkAt f b).code.drop i) ≠ some true ∧ (scanL v ((blkAt f b).code.drop i) = none → ∀ s ∈ rowAt S b, X.getD s false = true)
theorem Cl.mono {b i : Nat} {X Y : List Bool} (h : Cl f S v b i X) (hm : ∀ j : Nat, X.getD j false = true → Y.getD j false = true) : Cl f S v b i Y := ⟨h.1, fun e s hs => hm s (h.2 e s hs)⟩
theorem set_true {seen : List Bool} {s j : Nat} (h : (seen.set s true).getD j false = true) : j = s ∨ seen.getD j false = true := by
 by_cases e : j = s
 ·exact .inl e
 ·right
  rwa [List.getD_eq_getElem?_getD, List.getElem?_set_ne (fun q => e q.symm), ← List.getD_eq_getElem?_getD] at h
theorem goS_close {g : Nat → List Bool → Bool × List Bool} {N m : Nat}
  (hl : ∀ s seen, (g s seen).2.length = seen.length ∧ ∀ j : Nat, seen.getD j false = true → (g s seen).2.getD j false = true)
  (hg : ∀ s seen, s < N → seen.length = N → seen.count false < m → (g s seen).1 = false → Cl f S v s 0 (g s seen).2 ∧ ∀ t : Nat, (g s seen).2.getD t false = true → seen.getD t false = true ∨ Cl f S v t 0 (g s seen).2) :
  ∀ {l : List Nat} {seen : List Bool}, (∀ s ∈ l, s < N) → seen.length = N → seen.count false ≤ m → (goS g l seen).1 = false →
   (∀ s ∈ l, (goS g l seen).2.getD s false = true) ∧ ∀ t : Nat, (goS g l seen).2.getD t false = true → seen.getD t false = true ∨ Cl f S v t 0 (goS g l seen).2
 | [], seen, _, _, _, _ => ⟨(fun s hs => by cases hs), fun t h => .inl h⟩
 | s :: l, seen, hs, hsl, hc, h => by
  have hr := fun t ht => hs t (List.mem_cons_of_mem _ ht)
  have hs0 := hs s List.mem_cons_self
  simp only [goS] at h ⊢
  by_cases c : seen.getD s false = true
  ·rw [if_pos c] at h ⊢
   have ih := goS_close hl hg hr hsl hc h
   have hm := (goS_spec hl (l := l) (seen := seen)).2
   refine ⟨fun t ht => ?_, ih.2⟩
   rcases List.mem_cons.1 ht with rfl | ht
   ·exact hm _ c
   ·exact ih.1 t ht
  ·have c' : seen.getD s false = false := by simpa using c
   rw [if_neg c] at h ⊢
   have hct := set_count (s := s) (by omega) c'
   have hsetl : (seen.set s true).length = N := by rw [List.length_set]; exact hsl
   by_cases c2 : (g s (seen.set s true)).1 = true
   ·rw [if_pos c2] at h
    cases h
   ·rw [if_neg c2] at h ⊢
    have c2' : (g s (seen.set s true)).1 = false := by simpa using c2
    have h1 := hg s (seen.set s true) hs0 hsetl (by omega) c2'
    have h1l := hl s (seen.set s true)
    have hct2 := (zer_le (a := seen.set s true) (b := (g s (seen.set s true)).2) h1l.1.symm h1l.2).1
    generalize (g s (seen.set s true)).2 = sn at h h1 h1l hct2 ⊢
    have ih := goS_close hl hg hr (h1l.1.trans hsetl) (by omega) h
    have hm := (goS_spec hl (l := l) (seen := sn)).2
    have hsself : (seen.set s true).getD s false = true := by rw [List.getD_eq_getElem?_getD, List.getElem?_set_self (by omega)]; rfl
    refine ⟨fun t ht => ?_, fun t ht => ?_⟩
    ·rcases List.mem_cons.1 ht with rfl | ht
     ·exact hm _ (h1l.2 _ hsself)
     ·exact ih.1 t ht
    ·rcases ih.2 t ht with h2 | h2
     ·rcases h1.2 t h2 with h3 | h3
      ·rcases set_true h3 with e | h3
       ·right
        rw [e]
        exact h1.1.mono hm
       ·exact .inl h3
      ·exact .inr (h3.mono hm)
     ·exact .inr h2
theorem srch_close (hI : LvIn f S) : ∀ {k b i : Nat} {seen : List Bool}, b < f.blocks.length → seen.length = f.blocks.length → seen.count false < k → (srch f S v k b i seen).1 = false →
  Cl f S v b i (srch f S v k b i seen).2 ∧ ∀ t : Nat, (srch f S v k b i seen).2.getD t false = true → seen.getD t false = true ∨ Cl f S v t 0 (srch f S v k b i seen).2
 | 0, _, _, _, _, _, hc, _ => absurd hc (Nat.not_lt_zero _)
 | k + 1, b, i, seen, hb, hl, hc, h => by
  cases e : scanL v ((blkAt f b).code.drop i) with
  | some r =>
   simp only [srch, e] at h ⊢
   subst h
   exact ⟨⟨by rw [e]; decide, fun h => by rw [e] at h; cases h⟩, fun t ht => .inl ht⟩
  | none =>
   simp only [srch, e] at h ⊢
   have := goS_close (f := f) (S := S) (v := v) (g := fun s seen => srch f S v k s 0 seen) (N := f.blocks.length) (m := k) (fun s seen => srch_spec) (fun s seen h1 h2 h3 h4 => srch_close hI h1 h2 h3 h4) (rowAt_lt hI hb) hl (by omega) h
   exact ⟨⟨by rw [e]; decide, fun _ => this.1⟩, this.2⟩
theorem Cl.no {X : List Bool} (hX : ∀ t : Nat, X.getD t false = true → Cl f S v t 0 X) {b i : Nat} (h : Wnt f S v b i) : ¬ Cl f S v b i X := by
 induction h with
 | loc e => exact fun hc => hc.1 e
 | go e hs _ ih => exact fun hc => ih (hX _ (hc.2 e _ hs))
theorem want_iff (hI : LvIn f S) {b i : Nat} (hb : b < f.blocks.length) : wantB f S b i v = true ↔ knownF f v = true ∧ Wnt f S v b i := by
 unfold wantB
 rw [Bool.and_eq_true]
 refine and_congr_right fun _ => ⟨srch_sound, fun hw => ?_⟩
 refine Decidable.byContradiction fun hn => ?_
 have hn : (srch f S v (f.blocks.length + 1) b i (List.replicate f.blocks.length false)).1 = false := by simpa using hn
 have hz : ∀ t : Nat, (List.replicate f.blocks.length false).getD t false = true → False := fun t h => by
  rw [List.getD_eq_getElem?_getD, List.getElem?_replicate] at h
  split at h <;> cases h
 have := srch_close hI hb (by simp) (by simp) hn
 exact Cl.no (fun t ht => (this.2 t ht).resolve_left (hz t)) hw this.1
end
/- live.New finds what is wanted: plain. -/
theorem addS_get {s : List Bool} {p : Int} {j : Nat} (hj : j < s.length) : (addS s p).getD j false = (decide (p = (j : Int)) || s.getD j false) := by
 unfold addS
 by_cases c : inB s p = true
 ·rw [if_pos c]
  have hb := of_decide_eq_true c
  rw [List.getD_eq_getElem?_getD, List.getElem?_set]
  by_cases e : p = (j : Int)
  ·rw [if_pos (by omega), if_pos (by omega), decide_eq_true e]
   rfl
  ·rw [if_neg (by omega), decide_eq_false e, ← List.getD_eq_getElem?_getD]
   rfl
 ·rw [if_neg c]
  have hb : ¬ (0 ≤ p ∧ p < s.length) := fun h => c (decide_eq_true h)
  rw [decide_eq_false (by omega)]
  rfl
theorem dropS_get {s : List Bool} {p : Int} {j : Nat} (hj : j < s.length) : (dropS s p).getD j false = (!decide (p = (j : Int)) && s.getD j false) := by
 unfold dropS
 by_cases c : inB s p = true
 ·rw [if_pos c]
  have hb := of_decide_eq_true c
  rw [List.getD_eq_getElem?_getD, List.getElem?_set]
  by_cases e : p = (j : Int)
  ·rw [if_pos (by omega), if_pos (by omega), decide_eq_true e]
   rfl
  ·rw [if_neg (by omega), decide_eq_false e, ← List.getD_eq_getElem?_getD]
   rfl
 ·rw [if_neg c]
  have hb : ¬ (0 ≤ p ∧ p < s.length) := fun h => c (decide_eq_true h)
  rw [decide_eq_false (by omega)]
  rfl
section
variable {u : List Int} {k : Nat} {v : Int}
theorem getD_of {u : List Int} {i : Nat} (h : i < u.length) : u.getD i 0 = u[i] := by rw [List.getD_eq_getElem?_getD, List.getElem?_eq_getElem h]; rfl
theorem place_self (hu : u.Pairwise (· < ·)) (hk : u[k]? = some v) : placeL u v = (k : Int) := by
 have ⟨hlt, e⟩ := List.getElem?_eq_some_iff.1 hk
 have hl : lbI u v = k := by
  refine lbI_eq (by omega) (fun i hi => ?_) (fun i hi hil => ?_)
  ·rw [getD_of (by omega), ← e]
   exact List.pairwise_iff_getElem.1 hu i k (by omega) hlt hi
  ·rw [getD_of hil, ← e]
   by_cases c : i = k
   ·subst c; exact Int.le_refl _
   ·exact Int.le_of_lt (List.pairwise_iff_getElem.1 hu k i hlt hil (by omega))
 unfold placeL foundI
 rw [hl, getD_of hlt, e, decide_eq_true hlt]
 simp
theorem place_of {x : Int} (hp : placeL u x = (k : Int)) (hk : u[k]? = some v) : x = v := by
 have ⟨hlt, e⟩ := List.getElem?_eq_some_iff.1 hk
 unfold placeL at hp
 by_cases c : foundI u x = true
 ·rw [if_pos c] at hp
  have hl : lbI u x = k := by omega
  unfold foundI at c
  rw [hl, getD_of hlt, e, Bool.and_eq_true] at c
  exact (eq_of_beq c.2).symm
 ·rw [if_neg c] at hp
  omega
theorem place_iff (hu : u.Pairwise (· < ·)) (hk : u[k]? = some v) {x : Int} : (placeL u x = (k : Int)) ↔ x = v := ⟨fun h => place_of h hk, fun h => by rw [h]; exact place_self hu hk⟩
theorem ahead_get (hu : u.Pairwise (· < ·)) (hk : u[k]? = some v) {x : Ins} {s : List Bool} (hs : s.length = u.length) : (aheadS u x s).getD k false = if takesX x v = true then true else if givesX x v = true then false else s.getD k false := by
 have hlt := (List.getElem?_eq_some_iff.1 hk).1
 have h1 : ∀ (l : List Opd) (t : List Bool), t.length = u.length → (l.foldl (argS u) t).getD k false = ((l.any fun a => decide (a.kind = 1) && decide (a.n = v)) || t.getD k false) := by
  intro l
  induction l with
  | nil => intro t _; rfl
  | cons a l ih =>
   intro t ht
   rw [List.foldl_cons, ih _ (by rw [argS_len]; exact ht), List.any_cons]
   have : (argS u t a).getD k false = ((decide (a.kind = 1) && decide (a.n = v)) || t.getD k false) := by
    unfold argS
    by_cases c : a.kind = 1
    ·rw [if_pos c, addS_get (by omega), decide_eq_true c, Bool.true_and]
     congr 1
     exact decide_eq_decide.2 (place_iff hu hk)
    ·rw [if_neg c, decide_eq_false c]
     rfl
   rw [this]
   cases (decide (a.kind = 1) && decide (a.n = v)) <;> cases (l.any fun a => decide (a.kind = 1) && decide (a.n = v)) <;> rfl
 have h2 : (dstS u x s).getD k false = (!givesX x v && s.getD k false) := by
  unfold dstS givesX
  by_cases c : x.dst.kind = 1
  ·rw [if_pos c, dropS_get (by omega), decide_eq_true c, Bool.true_and]
   congr 2
   exact decide_eq_decide.2 (place_iff hu hk)
  ·rw [if_neg c, decide_eq_false c]
   rfl
 unfold aheadS
 rw [h1 _ _ (by rw [dstS_len]; exact hs), h2]
 have : (x.args.any fun a => decide (a.kind = 1) && decide (a.n = v)) = takesX x v := rfl
 rw [this]
 cases takesX x v <;> cases givesX x v <;> simp
theorem back_get (hu : u.Pairwise (· < ·)) (hk : u[k]? = some v) {s : List Bool} (hs : s.length = u.length) : ∀ {l : List Ins}, (backS u l s).getD k false = match scanL v l with
  | some r => r
  | none => s.getD k false
 | [] => rfl
 | x :: l => by
  have ih := back_get hu hk hs (l := l)
  have e : backS u (x :: l) s = aheadS u x (backS u l s) := rfl
  rw [e, ahead_get hu hk (by rw [backS_len]; exact hs), ih, scanL]
  by_cases c : takesX x v = true
  ·rw [if_pos c, if_pos c]
  ·rw [if_neg c, if_neg c]
   by_cases c2 : givesX x v = true
   ·rw [if_pos c2, if_pos c2]
   ·rw [if_neg c2, if_neg c2]
end
section
variable {f : Fnc} {S : List (List Nat)} {u : List Int}
/-- All that is told is wanted. -/
def SndL (f : Fnc) (S : List (List Nat)) (u : List Int) (L : List (List Bool × List Bool)) : Prop :=
 ∀ b, b < f.blocks.length → ∀ (k : Nat) v, u[k]? = some v → ((insAt L b).getD k false = true → Wnt f S v b 0) ∧ ((outAt L b).getD k false = true → ∃ s ∈ rowAt S b, Wnt f S v s 0)
theorem Wnt.of_back (hu : u.Pairwise (· < ·)) {k : Nat} {v : Int} (hk : u[k]? = some v) {b i : Nat} {s : List Bool} (hs : s.length = u.length) (ho : s.getD k false = true → ∃ t ∈ rowAt S b, Wnt f S v t 0)
  (h : (backS u ((blkAt f b).code.drop i) s).getD k false = true) : Wnt f S v b i := by
 rw [back_get hu hk hs] at h
 cases e : scanL v ((blkAt f b).code.drop i) with
 | some r =>
  rw [e] at h
  have : r = true := h
  subst this
  exact .loc e
 | none =>
  rw [e] at h
  have ⟨t, ht, hw⟩ := ho h
  exact .go e ht hw
theorem step_snd (hu : u.Pairwise (· < ·)) (hI : LvIn f S) (L : List (List Bool × List Bool)) (b : Nat) (hL : LvL f u L) (hb : b < f.blocks.length) (h : SndL f S u L) : SndL f S u (stepL u (blkAt f b) (rowAt S b) L b) := by
 have hbL : b < L.length := by rw [hL.len]; exact hb
 have hout : ∀ (k : Nat) v, u[k]? = some v → (outK L (rowAt S b) b).getD k false = true → ∃ s ∈ rowAt S b, Wnt f S v s 0 := by
  intro k v hk ho
  rcases outK_iff ho with ho | ⟨s, hs, hi⟩
  ·exact (h b hb k v hk).2 ho
  ·exact ⟨s, hs, (h s (rowAt_lt hI hb s hs) k v hk).1 hi⟩
 intro c hc k v hk
 unfold stepL
 rw [insAt_set hbL, outAt_set hbL]
 by_cases e : c = b
 ·rw [if_pos e, if_pos e, e]
  refine ⟨fun hi => ?_, hout k v hk⟩
  unfold inN at hi
  rcases orS_iff hi with hi | hi
  ·exact (h b hb k v hk).1 hi
  ·exact Wnt.of_back hu hk (i := 0) (outK_len hL hb) (hout k v hk) (by rw [List.drop_zero]; exact hi)
 ·rw [if_neg e, if_neg e]
  exact h c hc k v hk
theorem Wnt.back (hu : u.Pairwise (· < ·)) (hI : LvIn f S) {L : List (List Bool × List Bool)} (hL : LvL f u L) (hC : Closed u f S L) {k : Nat} {v : Int} (hk : u[k]? = some v) {b i : Nat} (hw : Wnt f S v b i) (hb : b < f.blocks.length) : (backS u ((blkAt f b).code.drop i) (outAt L b)).getD k false = true := by
 induction hw with
 | loc e => rw [back_get hu hk (outAt_len hL hb), e]
 | go e hs _ ih =>
  rw [back_get hu hk (outAt_len hL hb), e]
  have hsb := rowAt_lt hI hb _ hs
  have := ih hsb
  rw [List.drop_zero] at this
  exact hC.out _ hb _ hs _ (hC.ins _ hsb _ this)
end
/-- The sets that live.New ends with. -/
theorem lastL_ok {f : Fnc} (h : NewOk f) : LvL f (idsU f) (lastL f) ∧ SndL f (succF f.blocks) (idsU f) (lastL f) ∧ Closed (idsU f) f (succF f.blocks) (lastL f) := by
 have hE0 : LvL f (idsU f) (emptyL f) := ⟨by rw [emptyL, List.length_replicate], fun x hx => by
  have := List.eq_of_mem_replicate hx
  rw [this]
  exact ⟨noneB_len, noneB_len⟩⟩
 have hS0 : SndL f (succF f.blocks) (idsU f) (emptyL f) := by
  intro b hb k v hk
  have hn : ∀ m : Nat, (noneB m).getD k false = true → False := fun m h => by
   unfold noneB at h
   rw [List.getD_eq_getElem?_getD, List.getElem?_replicate] at h
   split at h <;> cases h
  have hg : (emptyL f).getD b ([], []) = (noneB (idsU f).length, noneB (idsU f).length) := by
   rw [emptyL, List.getD_eq_getElem?_getD, List.getElem?_replicate, if_pos hb]
   rfl
  unfold insAt outAt
  rw [hg]
  exact ⟨fun h => (hn _ h).elim, fun h => (hn _ h).elim⟩
 exact finL_spec h.inn (Q := SndL f (succF f.blocks) (idsU f)) (fun L b hL hb hQ => step_snd (idsU_lt f) h.inn L b hL hb hQ) hE0 hS0 (Nat.lt_succ_self _)
section
variable {f : Fnc} {k : Nat} {v : Int} {b : Nat}
theorem back_iff (h : NewOk f) (hk : (idsU f)[k]? = some v) (hb : b < f.blocks.length) {i : Nat} : (backS (idsU f) ((blkAt f b).code.drop i) (outAt (lastL f) b)).getD k false = true ↔ Wnt f (succF f.blocks) v b i := by
 have ⟨h1, h2, h3⟩ := lastL_ok h
 exact ⟨fun hB => Wnt.of_back (idsU_lt f) hk (outAt_len h1 hb) (h2 b hb k v hk).2 hB, fun hw => hw.back (idsU_lt f) h.inn h1 h3 hk hb⟩
theorem ins_iff (h : NewOk f) (hk : (idsU f)[k]? = some v) (hb : b < f.blocks.length) : (insAt (lastL f) b).getD k false = true ↔ Wnt f (succF f.blocks) v b 0 := by
 have ⟨h1, h2, h3⟩ := lastL_ok h
 refine ⟨(h2 b hb k v hk).1, fun hw => ?_⟩
 have := (back_iff h hk hb (i := 0)).2 hw
 rw [List.drop_zero] at this
 exact h3.ins b hb k this
theorem out_iff (h : NewOk f) (hk : (idsU f)[k]? = some v) (hb : b < f.blocks.length) {i : Nat} (hi : (blkAt f b).code.length ≤ i) : (outAt (lastL f) b).getD k false = true ↔ Wnt f (succF f.blocks) v b i := by
 rw [← back_iff h hk hb, List.drop_eq_nil_of_le hi]
 rfl
end
theorem LvOk.of {f : Fnc} (h : NewOk f) : LvOk f (idsU f) ((lastL f).map (·.1)) ((lastL f).map (·.2)) := by
 have ⟨h1, _, _⟩ := lastL_ok h
 refine ⟨h.pt, idsU_srt, ?_, by rw [List.length_map, h1.len], by rw [List.length_map, h1.len], ?_, ?_, fun B hB => (h.inn.code B hB).2, fun B hB => (h.inn.code B hB).1⟩
 ·have : (idsU f).length ≤ (idsR f).length := by
   have := cpt_len (l := (idsR f).mergeSort leI)
   rw [List.length_mergeSort] at this
   exact this
  have h2 : (idsR f).length = f.regs.length := by simp [idsR]
  have := h.rl
  omega
 ·intro s hs
  have ⟨x, hx, e⟩ := List.mem_map.1 hs
  rw [← e]
  exact (h1.all x hx).1
 ·intro s hs
  have ⟨x, hx, e⟩ := List.mem_map.1 hs
  rw [← e]
  exact (h1.all x hx).2
/- What live answers is what is wanted: plain. -/
theorem mem_ones {s : List Bool} {k : Nat} : k ∈ ones s ↔ s.getD k false = true := by
 unfold ones
 rw [List.mem_filter, List.mem_range]
 refine ⟨fun h => h.2, fun h => ⟨?_, h⟩⟩
 refine Decidable.byContradiction fun hn => ?_
 rw [List.getD_eq_getElem?_getD, List.getElem?_eq_none (by omega)] at h
 cases h
theorem mem_listL {u : List Int} {s : List Bool} (hs : s.length = u.length) {x : Int} : x ∈ listL u s ↔ ∃ k : Nat, s.getD k false = true ∧ u[k]? = some x := by
 unfold listL
 rw [List.mem_map]
 constructor
 ·rintro ⟨k, hk, e⟩
  have hlt := ones_lt hk
  exact ⟨k, mem_ones.1 hk, by rw [← e, getD_of (by omega)]; exact List.getElem?_eq_getElem (by omega)⟩
 ·rintro ⟨k, hk, e⟩
  exact ⟨k, mem_ones.2 hk, by rw [List.getD_eq_getElem?_getD, e]; rfl⟩
theorem mem_at {u : List Int} {s : List Bool} (hu : u.Pairwise (· < ·)) (hs : s.length = u.length) {k : Nat} {v : Int} (hk : u[k]? = some v) : v ∈ listL u s ↔ s.getD k false = true := by
 rw [mem_listL hs]
 constructor
 ·rintro ⟨j, hj, e⟩
  have h1 := place_self hu hk
  have h2 := place_self hu e
  rw [h1] at h2
  rw [show k = j by omega]
  exact hj
 ·exact fun h => ⟨k, h, hk⟩
theorem known_iff {f : Fnc} {v : Int} : knownF f v = true ↔ v ∈ idsU f := by
 rw [idsU_mem, knownF, List.any_eq_true]
 constructor
 ·rintro ⟨g, hg, e⟩
  exact ⟨g, hg, of_decide_eq_true e⟩
 ·rintro ⟨g, hg, e⟩
  exact ⟨g, hg, decide_eq_true e⟩
section
variable {f : Fnc}
theorem outs_get (f : Fnc) (b : Nat) : ((lastL f).map (·.2)).getD b [] = outAt (lastL f) b := by
 unfold outAt
 rw [List.getD_eq_getElem?_getD, List.getD_eq_getElem?_getD, List.getElem?_map]
 cases (lastL f)[b]? <;> rfl
theorem def_get {u : List Int} (hu : u.Pairwise (· < ·)) {k : Nat} {v : Int} (hk : u[k]? = some v) {x : Ins} {s : List Bool} (hs : s.length = u.length) : (defS u x s).getD k false = (givesX x v || s.getD k false) := by
 have hlt := (List.getElem?_eq_some_iff.1 hk).1
 unfold defS givesX
 by_cases c : x.dst.kind = 1
 ·rw [if_pos c, addS_get (by omega), decide_eq_true c, Bool.true_and]
  congr 1
  exact decide_eq_decide.2 (place_iff hu hk)
 ·rw [if_neg c, decide_eq_false c]
  rfl
theorem atS_eq (b i : Nat) (o : Bool) : atS f (idsU f) ((lastL f).map (·.2)) b i o = if o = true then defS (idsU f) (insAtF f b i) (backS (idsU f) ((blkAt f b).code.drop (i + 1)) (outAt (lastL f) b)) else backS (idsU f) ((blkAt f b).code.drop i) (outAt (lastL f) b) := by
 unfold atS
 rw [outs_get]
 rfl
/-- What is present at a point is what the chapter says. -/
theorem mem_pres (h : NewOk f) {p v : Int} : v ∈ presL f (idsU f) ((lastL f).map (·.2)) p ↔ presB f (succF f.blocks) p v = true := by
 have hO := LvOk.of h
 by_cases hex : ∃ b i o, PtAt f.blocks p b i o
 ·have ⟨b, i, o, hat⟩ := hex
  have ⟨B, hB, hi, hp, ho⟩ := hat
  have hb := (List.getElem?_eq_some_iff.1 hB).1
  have ⟨k1, k2, k3⟩ := hat.blk
  have hat' : atO f (idsU f) ((lastL f).map (·.2)) p = some (atS f (idsU f) ((lastL f).map (·.2)) b i o) := by
   unfold atO
   rw [k1, k2, k3, if_neg (by omega), Int.toNat_natCast, Int.toNat_natCast]
  have hlen := atS_len hO hb (i := i) (o := o)
  rw [presB_at hat]
  have hpl : presL f (idsU f) ((lastL f).map (·.2)) p = listL (idsU f) (atS f (idsU f) ((lastL f).map (·.2)) b i o) := by simp only [presL, hat']
  rw [hpl]
  have hw0 := want_iff (v := v) h.inn hb (i := i)
  have hw1 := want_iff (v := v) h.inn hb (i := i + 1)
  by_cases hv : v ∈ idsU f
  ·have ⟨k, hk⟩ := List.mem_iff_getElem?.1 hv
   have hkn := known_iff.2 hv
   rw [mem_at (idsU_lt f) hlen hk, atS_eq]
   cases o with
   | false =>
    rw [if_neg (by decide), if_neg (by decide), hw0, back_iff h hk hb]
    exact ⟨fun q => ⟨hkn, q⟩, fun q => q.2⟩
   | true =>
    have ⟨h1, _, _⟩ := lastL_ok h
    rw [if_pos rfl, if_pos rfl, def_get (idsU_lt f) hk (by rw [backS_len]; exact outAt_len h1 hb), Bool.or_eq_true, Bool.or_eq_true, Bool.and_eq_true, hw1, back_iff h hk hb]
    exact ⟨fun q => q.imp (fun q => ⟨hkn, q⟩) (fun q => ⟨hkn, q⟩), fun q => q.imp (fun q => q.2) (fun q => q.2)⟩
  ·have hkn : ¬ knownF f v = true := fun q => hv (known_iff.1 q)
   constructor
   ·intro q
    have ⟨k, _, e⟩ := (mem_listL hlen).1 q
    exact absurd (List.mem_of_getElem? e) hv
   ·intro q
    exfalso
    cases o with
    | false =>
     rw [if_neg (by decide), hw0] at q
     exact hkn q.1
    | true =>
     rw [if_pos rfl, Bool.or_eq_true, Bool.and_eq_true, hw1] at q
     rcases q with q | q
     ·exact hkn q.1
     ·exact hkn q.1
 ·have hno : ∀ b i o, ¬ PtAt f.blocks p b i o := fun b i o h => hex ⟨b, i, o, h⟩
  rw [presB_none hno]
  have := (pt_none hno).1
  unfold presL atO
  rw [if_pos this]
  simp
end
/- Spans, as live tells them, are the reference's: plain. -/
/- A function's sizes: plain. -/
section
variable {f : Fnc}
theorem mem_want (h : NewOk f) {s : List Bool} (hs : s.length = (idsU f).length) {x : Int} {b i : Nat} (hb : b < f.blocks.length) (hw : ∀ (k : Nat), (idsU f)[k]? = some x → (s.getD k false = true ↔ Wnt f (succF f.blocks) x b i)) : decide (x ∈ listL (idsU f) s) = wantB f (succF f.blocks) b i x := by
 rw [Bool.eq_iff_iff, decide_eq_true_iff, want_iff h.inn hb, known_iff]
 by_cases hv : x ∈ idsU f
 ·have ⟨k, hk⟩ := List.mem_iff_getElem?.1 hv
  rw [mem_at (idsU_lt f) hs hk, hw k hk]
  exact ⟨fun q => ⟨hv, q⟩, fun q => q.2⟩
 ·refine ⟨fun q => ?_, fun q => absurd q.1 hv⟩
  have ⟨k, _, e⟩ := (mem_listL hs).1 q
  exact absurd (List.mem_of_getElem? e) hv
theorem in_want (h : NewOk f) {b : Nat} (hb : b < f.blocks.length) (x : Int) : decide (x ∈ listL (idsU f) (insAt (lastL f) b)) = wantB f (succF f.blocks) b 0 x :=
 mem_want h (insAt_len (lastL_ok h).1 hb) hb fun k hk => ins_iff h hk hb
theorem out_want (h : NewOk f) {b i : Nat} (hb : b < f.blocks.length) (hi : (blkAt f b).code.length ≤ i) (x : Int) : decide (x ∈ listL (idsU f) (outAt (lastL f) b)) = wantB f (succF f.blocks) b i x :=
 mem_want h (outAt_len (lastL_ok h).1 hb) hb fun k hk => out_iff h hk hb hi
theorem newOk_of (h1 : f.blocks.length ≤ 80) (h2 : f.regs.length ≤ 2000) (h3 : ∀ b ∈ f.blocks, b.code.length ≤ 2000 ∧ ∀ x ∈ b.code, x.args.length ≤ 9223372036854775807 ∧ x.labels.length ≤ 9223372036854775807) : NewOk f := by
 have hsum : ∀ k, k ≤ f.blocks.length → sumTo f.blocks k ≤ 2000 * k := by
  intro k
  induction k with
  | zero => intro _; simp [sumTo]
  | succ k ih =>
   intro hk
   have hx := List.getElem?_eq_getElem (l := f.blocks) (i := k) (by omega)
   have := (h3 _ (List.mem_of_getElem? hx)).1
   rw [sumTo_succ hx]
   have := ih (by omega)
   omega
 refine ⟨⟨by simp [succF], fun r hr => ?_, fun B hB => ⟨by have := (h3 B hB).1; omega, fun x hx => by have := ((h3 B hB).2 x hx).1; omega⟩, by omega⟩, ⟨by omega, by have := hsum _ (Nat.le_refl _); omega⟩, by omega, fun b hb => ⟨by have := (h3 b hb).1; omega, fun x hx => by have := ((h3 b hb).2 x hx).2; omega⟩⟩
 unfold succF at hr
 have ⟨B, _, e⟩ := List.mem_map.1 hr
 rw [← e]
 exact ⟨by have := succB_len f.blocks B; omega, succB_lt f.blocks B⟩
end
/- An example: works. -/
set_option maxRecDepth 100000
set_option maxHeartbeats 1000000 in
theorem C20 (a b : List Int) (ha : a.length < 1000000) : Ctr Tryz.prog 20 [.sl (a.map encN), .sl (b.map encN)] [] (ret [.bool (a == b)]) := by
 apply ctr_b A20_ok rfl (Nat.le_of_ble_eq_true rfl)
 unfold A20
 simp only [initL, Nat.reduceAdd]
 simp -implicitDefEqProofs (disch := omega) only [↓reduceIte, go_sem, reduceToNat, reduceAdd, reduceLeDiff, reduceEqDiff, reduceSub, reduceMul, reduceCtorEq]
 refine ifE (fun e => ?_) (fun e => ?_)
 ·simp -implicitDefEqProofs (disch := omega) only [↓reduceIte, go_sem, reduceToNat, reduceAdd, reduceLeDiff, reduceEqDiff, reduceSub, reduceMul, reduceCtorEq]
  refine loopL (σ := Nat) (fun n => ⟨[(0, .sl (a.map encN)), (1, .sl (b.map encN)), (5, .int .i64 (n : Int))], []⟩) (fun n => n ≤ a.length ∧ a.take n = b.take n) (fun n => a.length - n) 0 (by simp -implicitDefEqProofs (disch := omega) only [↓reduceIte, go_sem, reduceToNat, reduceAdd, reduceLeDiff, reduceEqDiff, reduceSub, reduceMul, reduceCtorEq]; rfl) ⟨Nat.zero_le _, rfl⟩ ?_
  rintro n ⟨h1, h2⟩
  have hl : a.length = b.length := by omega
  simp -implicitDefEqProofs (disch := omega) only [↓reduceIte, go_sem, reduceToNat, reduceAdd, reduceLeDiff, reduceEqDiff, reduceSub, reduceMul, reduceCtorEq]
  refine ifD (fun c => ?_) (fun c => ?_)
  ·have g1 := getZ (l := a) (k := n) (by omega)
   have g2 := getZ (l := b) (k := n) (by omega)
   simp -implicitDefEqProofs (disch := omega) only [↓reduceIte, go_sem, reduceToNat, reduceAdd, reduceLeDiff, reduceEqDiff, reduceSub, reduceMul, reduceCtorEq, g1, g2, encN]
   refine accL (by kernel_rfl) ?_
   simp -implicitDefEqProofs (disch := omega) only [↓reduceIte, go_sem, reduceToNat, reduceAdd, reduceLeDiff, reduceEqDiff, reduceSub, reduceMul, reduceCtorEq, g1, g2, encN]
   refine ifE (fun e2 => ?_) (fun e2 => ?_)
   ·simp -implicitDefEqProofs (disch := omega) only [↓reduceIte, go_sem, reduceToNat, reduceAdd, reduceLeDiff, reduceEqDiff, reduceSub, reduceMul, reduceCtorEq]
    refine ⟨n + 1, by simp, ⟨by omega, ?_⟩, by omega⟩
    rw [snoc_take g1, snoc_take g2, h2, e2]
   ·simp -implicitDefEqProofs (disch := omega) only [↓reduceIte, go_sem, reduceToNat, reduceAdd, reduceLeDiff, reduceEqDiff, reduceSub, reduceMul, reduceCtorEq]
    have hne : (a == b) = false := by
     refine beq_eq_false_iff_ne.2 fun hab => ?_
     exact e2 (by rw [hab])
    exact ⟨by rw [hne], rfl⟩
  ·simp -implicitDefEqProofs (disch := omega) only [↓reduceIte, go_sem, reduceToNat, reduceAdd, reduceLeDiff, reduceEqDiff, reduceSub, reduceMul, reduceCtorEq]
   have : n = a.length := by omega
   rw [this, List.take_length, hl, List.take_length] at h2
   exact ⟨by rw [h2]; simp, rfl⟩
 ·simp -implicitDefEqProofs (disch := omega) only [↓reduceIte, go_sem, reduceToNat, reduceAdd, reduceLeDiff, reduceEqDiff, reduceSub, reduceMul, reduceCtorEq]
  have hne : (a == b) = false := by
   refine beq_eq_false_iff_ne.2 fun hab => ?_
   exact e (by rw [hab])
  exact ⟨by rw [hne], rfl⟩
def vX (n : Int) : Opd := ⟨1, 0, n, 0⟩
def o0X : Opd := ⟨0, 0, 0, 0⟩
def bsX : List Blk := [⟨⟨#[97]⟩, false, [], [⟨1, vX 2, [vX 1, vX 1], .empty, 0, [], []⟩, ⟨21, o0X, [vX 2], .empty, 0, [⟨#[98]⟩, ⟨#[99]⟩], []⟩]⟩,
 ⟨⟨#[98]⟩, false, [], [⟨23, o0X, [vX 1], .empty, 0, [], []⟩]⟩, ⟨⟨#[99]⟩, false, [], [⟨23, o0X, [vX 2], .empty, 0, [], []⟩]⟩]
def fX : Fnc := ⟨false, .empty, [⟨1, 0⟩, ⟨2, 0⟩], [], bsX⟩
theorem uX : idsU fX = [1, 2] := by
 have h : (idsR fX).mergeSort leI = [1, 2] := by
  have : idsR fX = [1, 2] := rfl
  rw [this]
  exact List.mergeSort_of_pairwise (by decide)
 rw [idsU, h]
 rfl
theorem succX : succF fX.blocks = [[1, 2], [], []] := by decide
def insX : List (List Bool) := [[true, false], [true, false], [false, true]]
def outsX : List (List Bool) := [[true, true], [false, false], [false, false]]
theorem lastX : (lastL fX).map (·.1) = insX ∧ (lastL fX).map (·.2) = outsX := by
 unfold lastL emptyL
 rw [uX, succX]
 decide
theorem okX : NewOk fX := by
 refine ⟨⟨by decide, by rw [succX]; decide, by decide, by decide⟩, ⟨by decide, by decide⟩, by decide, by decide⟩
theorem C18 (n : Int) : Ctr Tryz.prog 18 [.int .i64 n] [] (ret [.agg (encO (vX n))]) := by
 apply ctr_b A18_ok rfl (Nat.le_of_ble_eq_true rfl)
 unfold A18
 simp only [initL, Nat.reduceAdd]
 simp -implicitDefEqProofs (disch := omega) only [↓reduceIte, go_sem, reduceToNat, reduceAdd, reduceLeDiff, reduceEqDiff, reduceSub, reduceMul, reduceCtorEq]
 exact ⟨rfl, rfl⟩
theorem spX : spansL fX [1, 2] insX outsX 1 = [(0, 3), (4, 5)] := by decide
theorem in0X : listL [1, 2] [true, false] = [1] := by decide
theorem out0X : listL [1, 2] [true, true] = [1, 2] := by decide
theorem pr1X : presL fX [1, 2] outsX 1 = [1, 2] := by decide
theorem th0X : thrL fX [1, 2] outsX 0 0 = [1] := by decide
theorem mo0X : mostL fX [1, 2] outsX 0 = 2 := by decide
set_option maxHeartbeats 4000000 in
theorem C6 : Ctr Tryz.prog 6 [] [] (ret [.bool true]) := by
 have hO := LvOk.of okX
 have hn := C8 fX okX
 rw [uX, lastX.1, lastX.2] at hn hO
 have hv1 := C18 1
 have hv2 := C18 2
 have hsp := C19 fX [1, 2] insX outsX 1 hO
 have hin := C13 fX [1, 2] insX outsX 2 0 [true, false] rfl rfl rfl (by decide)
 have hou := C15 fX [1, 2] insX outsX 2 0 [true, true] rfl (by decide) rfl rfl (by decide)
 have hpr := C9 fX [1, 2] insX outsX 1 hO (by decide)
 have hth := C21 fX [1, 2] insX outsX 0 0 hO
 have hmo := C16 fX [1, 2] insX outsX 0 hO (by decide)
 rw [spX] at hsp
 rw [in0X] at hin
 rw [out0X] at hou
 rw [pr1X] at hpr
 rw [th0X] at hth
 rw [mo0X] at hmo
 have hi1 := C20 [1] [1] (by decide)
 have hi2 := C20 [1, 2] [1, 2] (by decide)
 rw [show (([1] : List Int) == [1]) = true by decide] at hi1
 rw [show (([1, 2] : List Int) == [1, 2]) = true by decide] at hi2
 have ⟨L, eL⟩ : ∃ L, lvP fX [1, 2] insX outsX = .rp L := ⟨_, rfl⟩
 rw [eL] at hn hsp hin hou hpr hth hmo
 simp only [fX, bsX, vX, o0X, encFn, encBk, encIn, encO, encSt, encK, encN, encRg, encSp, List.map_cons, List.map_nil, List.length_cons, List.length_nil, Nat.reduceAdd, Int.natCast_zero, Int.cast_ofNat_Int] at hn hv1 hv2 hsp hin hou hpr hth hmo hi1 hi2
 apply ctr_b A6_ok rfl (Nat.le_of_ble_eq_true rfl)
 unfold A6
 simp only [initL, Nat.reduceAdd]
 simp -implicitDefEqProofs (disch := omega) only [↓reduceIte, go_sem, reduceToNat, reduceAdd, reduceLeDiff, reduceEqDiff, reduceSub, reduceMul, reduceCtorEq]
 refine callL hv2 ?_
 simp -implicitDefEqProofs (disch := omega) only [↓reduceIte, go_sem, reduceToNat, reduceAdd, reduceLeDiff, reduceEqDiff, reduceSub, reduceMul, reduceCtorEq]
 refine callL hv1 ?_
 simp -implicitDefEqProofs (disch := omega) only [↓reduceIte, go_sem, reduceToNat, reduceAdd, reduceLeDiff, reduceEqDiff, reduceSub, reduceMul, reduceCtorEq]
 refine callL hv1 ?_
 simp -implicitDefEqProofs (disch := omega) only [↓reduceIte, go_sem, reduceToNat, reduceAdd, reduceLeDiff, reduceEqDiff, reduceSub, reduceMul, reduceCtorEq]
 refine callL hv2 ?_
 simp -implicitDefEqProofs (disch := omega) only [↓reduceIte, go_sem, reduceToNat, reduceAdd, reduceLeDiff, reduceEqDiff, reduceSub, reduceMul, reduceCtorEq]
 refine callL hv1 ?_
 simp -implicitDefEqProofs (disch := omega) only [↓reduceIte, go_sem, reduceToNat, reduceAdd, reduceLeDiff, reduceEqDiff, reduceSub, reduceMul, reduceCtorEq]
 refine callL hv2 ?_
 simp -implicitDefEqProofs (disch := omega) only [↓reduceIte, go_sem, reduceToNat, reduceAdd, reduceLeDiff, reduceEqDiff, reduceSub, reduceMul, reduceCtorEq]
 refine callL hn ?_
 simp -implicitDefEqProofs (disch := omega) only [↓reduceIte, go_sem, reduceToNat, reduceAdd, reduceLeDiff, reduceEqDiff, reduceSub, reduceMul, reduceCtorEq]
 refine callL hsp ?_
 simp -implicitDefEqProofs (disch := omega) only [↓reduceIte, go_sem, reduceToNat, reduceAdd, reduceLeDiff, reduceEqDiff, reduceSub, reduceMul, reduceCtorEq]
 refine callL hin ?_
 simp -implicitDefEqProofs (disch := omega) only [↓reduceIte, go_sem, reduceToNat, reduceAdd, reduceLeDiff, reduceEqDiff, reduceSub, reduceMul, reduceCtorEq]
 refine callL hi1 ?_
 simp -implicitDefEqProofs (disch := omega) only [↓reduceIte, go_sem, reduceToNat, reduceAdd, reduceLeDiff, reduceEqDiff, reduceSub, reduceMul, reduceCtorEq]
 refine callL hou ?_
 simp -implicitDefEqProofs (disch := omega) only [↓reduceIte, go_sem, reduceToNat, reduceAdd, reduceLeDiff, reduceEqDiff, reduceSub, reduceMul, reduceCtorEq]
 refine callL hi2 ?_
 simp -implicitDefEqProofs (disch := omega) only [↓reduceIte, go_sem, reduceToNat, reduceAdd, reduceLeDiff, reduceEqDiff, reduceSub, reduceMul, reduceCtorEq]
 refine callL hpr ?_
 simp -implicitDefEqProofs (disch := omega) only [↓reduceIte, go_sem, reduceToNat, reduceAdd, reduceLeDiff, reduceEqDiff, reduceSub, reduceMul, reduceCtorEq]
 refine callL hi2 ?_
 simp -implicitDefEqProofs (disch := omega) only [↓reduceIte, go_sem, reduceToNat, reduceAdd, reduceLeDiff, reduceEqDiff, reduceSub, reduceMul, reduceCtorEq]
 refine callL hth ?_
 simp -implicitDefEqProofs (disch := omega) only [↓reduceIte, go_sem, reduceToNat, reduceAdd, reduceLeDiff, reduceEqDiff, reduceSub, reduceMul, reduceCtorEq]
 refine callL hi1 ?_
 simp -implicitDefEqProofs (disch := omega) only [↓reduceIte, go_sem, reduceToNat, reduceAdd, reduceLeDiff, reduceEqDiff, reduceSub, reduceMul, reduceCtorEq]
 refine callL hmo ?_
 simp -implicitDefEqProofs (disch := omega) only [↓reduceIte, go_sem, reduceToNat, reduceAdd, reduceLeDiff, reduceEqDiff, reduceSub, reduceMul, reduceCtorEq]
 exact ⟨rfl, rfl⟩
/- What an instruction uses; a register's class; a block's first number: the references. -/
def valP (o : Opd) : Int × Bool := if o.kind = 1 then (o.n, true) else (o.tag, decide (o.kind = 2) || decide (o.kind = 3))
theorem C39 (o : Opd) : Ctr Tryz.prog 39 [.agg (encO o)] [] (ret [.int .i64 (valP o).1, .bool (valP o).2]) := by
 apply ctr_b A39_ok rfl (Nat.le_of_ble_eq_true rfl)
 unfold A39 valP
 simp only [initL, Nat.reduceAdd]
 simp -implicitDefEqProofs (disch := omega) only [↓reduceIte, go_sem, reduceToNat, reduceAdd, reduceLeDiff, reduceEqDiff, reduceSub, reduceMul, reduceCtorEq, encO]
 refine ifE (fun e => ?_) (fun e => ?_)
 ·simp -implicitDefEqProofs (disch := omega) only [↓reduceIte, go_sem, reduceToNat, reduceAdd, reduceLeDiff, reduceEqDiff, reduceSub, reduceMul, reduceCtorEq]
  rw [if_pos e]
  exact ⟨rfl, rfl⟩
 ·rw [if_neg e]
  simp -implicitDefEqProofs (disch := omega) only [↓reduceIte, go_sem, reduceToNat, reduceAdd, reduceLeDiff, reduceEqDiff, reduceSub, reduceMul, reduceCtorEq]
  by_cases e2 : o.kind = 2
  ·simp -implicitDefEqProofs (disch := omega) only [↓reduceIte, go_sem, reduceToNat, reduceAdd, reduceLeDiff, reduceEqDiff, reduceSub, reduceMul, reduceCtorEq, e2]
   refine accL (by kernel_rfl) ?_
   simp -implicitDefEqProofs (disch := omega) only [↓reduceIte, go_sem, reduceToNat, reduceAdd, reduceLeDiff, reduceEqDiff, reduceSub, reduceMul, reduceCtorEq]
   exact ⟨by simp [e2], rfl⟩
  ·simp -implicitDefEqProofs (disch := omega) only [↓reduceIte, go_sem, reduceToNat, reduceAdd, reduceLeDiff, reduceEqDiff, reduceSub, reduceMul, reduceCtorEq, e2]
   refine accL (by kernel_rfl) ?_
   simp -implicitDefEqProofs (disch := omega) only [↓reduceIte, go_sem, reduceToNat, reduceAdd, reduceLeDiff, reduceEqDiff, reduceSub, reduceMul, reduceCtorEq]
   refine ⟨?_, rfl⟩
   have e4 : (o.kind == 3) = decide (o.kind = 3) := rfl
   rw [e4, decide_eq_false e2, Bool.false_or]
def usesS (out : List Int) (a : Opd) : List Int := if ((valP a).2 && !decide ((valP a).1 ∈ out)) = true then out ++ [(valP a).1] else out
def usesX (x : Ins) : List Int := x.args.foldl usesS []
theorem usesS_len {l : List Opd} {out : List Int} : (l.foldl usesS out).length ≤ out.length + l.length := by
 induction l generalizing out with
 | nil => simp
 | cons a l ih =>
  have := ih (out := usesS out a)
  have h2 : (usesS out a).length ≤ out.length + 1 := by
   unfold usesS
   split <;> simp
  simp only [List.foldl_cons, List.length_cons]
  omega
theorem C10 (x : Ins) (hl : x.args.length < 1000000) : Ctr Tryz.prog 10 [.agg (encIn x)] [] (ret [.sl ((usesX x).map encN)]) := by
 apply ctr_b A10_ok rfl (Nat.le_of_ble_eq_true rfl)
 unfold A10
 simp only [initL, Nat.reduceAdd]
 simp -implicitDefEqProofs (disch := omega) only [↓reduceIte, go_sem, reduceToNat, reduceAdd, reduceLeDiff, reduceEqDiff, reduceSub, reduceMul, reduceCtorEq, encIn]
 refine loopL (σ := Nat) (fun k => ⟨[(1, .rp (encIn x)), (3, .hs 3 ((x.args.take k).foldl usesS []).length 0 ((x.args.take k).foldl usesS []).length), (4, .int .i64 (k : Int))], [(3, .arr ((x.args.take k).foldl usesS []).length 1 (((x.args.take k).foldl usesS []).map encN))]⟩)
  (fun k => k ≤ x.args.length) (fun k => x.args.length - k) 0 (by simp -implicitDefEqProofs (disch := omega) only [↓reduceIte, go_sem, reduceToNat, reduceAdd, reduceLeDiff, reduceEqDiff, reduceSub, reduceMul, reduceCtorEq, encIn]; rfl) (Nat.zero_le _) ?_
 intro k hk
 have hle := usesS_len (l := x.args.take k) (out := [])
 have htl : (x.args.take k).length = k := by rw [List.length_take]; omega
 rw [htl] at hle
 have hsu : ∀ a, x.args[k]? = some a → (x.args.take (k + 1)).foldl usesS [] = usesS ((x.args.take k).foldl usesS []) a := fun a ha => by rw [snoc_take ha, List.foldl_append]; rfl
 have hend : k = x.args.length → usesX x = (x.args.take k).foldl usesS [] := fun e => by rw [e, List.take_length]; rfl
 generalize (x.args.take k).foldl usesS [] = O at hle hsu hend ⊢
 simp only [List.length_nil] at hle
 have hin := fun v => inZ O v (by omega)
 simp -implicitDefEqProofs (disch := omega) only [↓reduceIte, go_sem, reduceToNat, reduceAdd, reduceLeDiff, reduceEqDiff, reduceSub, reduceMul, reduceCtorEq, encIn]
 refine ifD (fun c => ?_) (fun c => ?_)
 ·have ha : x.args[k]? = some x.args[k] := List.getElem?_eq_getElem (by omega)
  have hsu := hsu _ ha
  generalize x.args[k] = a at ha hsu
  have hv := C39 a
  have hus : usesS O a = if ((valP a).2 && !decide ((valP a).1 ∈ O)) = true then O ++ [(valP a).1] else O := rfl
  rw [hus] at hsu
  have hcp : ((O.length + 1 : Nat) : Int) * ((8 : Nat) : Int) ≤ 70368744177664 := by omega
  have htk : (O.map encN).take O.length = O.map encN := List.take_of_length_le (by simp)
  unfold encO at hv
  generalize (valP a).1 = v at hv hsu
  generalize (valP a).2 = q at hv hsu
  have hin := hin v
  simp -implicitDefEqProofs (disch := omega) only [↓reduceIte, go_sem, reduceToNat, reduceAdd, reduceLeDiff, reduceEqDiff, reduceSub, reduceMul, reduceCtorEq, encIn, ha, encO]
  refine callL hv ?_
  simp -implicitDefEqProofs (disch := omega) only [↓reduceIte, go_sem, reduceToNat, reduceAdd, reduceLeDiff, reduceEqDiff, reduceSub, reduceMul, reduceCtorEq]
  cases q with
  | false =>
   simp -implicitDefEqProofs (disch := omega) only [↓reduceIte, go_sem, reduceToNat, reduceAdd, reduceLeDiff, reduceEqDiff, reduceSub, reduceMul, reduceCtorEq]
   exact ⟨k + 1, by rw [hsu]; rfl, by omega, by omega⟩
  | true =>
   simp -implicitDefEqProofs (disch := omega) only [↓reduceIte, go_sem, reduceToNat, reduceAdd, reduceLeDiff, reduceEqDiff, reduceSub, reduceMul, reduceCtorEq, htk]
   refine callL hin ?_
   simp -implicitDefEqProofs (disch := omega) only [↓reduceIte, go_sem, reduceToNat, reduceAdd, reduceLeDiff, reduceEqDiff, reduceSub, reduceMul, reduceCtorEq]
   by_cases e : v ∈ O
   ·simp -implicitDefEqProofs (disch := omega) only [↓reduceIte, go_sem, reduceToNat, reduceAdd, reduceLeDiff, reduceEqDiff, reduceSub, reduceMul, reduceCtorEq, e]
    rw [if_neg (by simp [e])] at hsu
    exact ⟨k + 1, by rw [hsu]; rfl, by omega, by omega⟩
   ·simp -implicitDefEqProofs (disch := omega) only [↓reduceIte, go_sem, reduceToNat, reduceAdd, reduceLeDiff, reduceEqDiff, reduceSub, reduceMul, reduceCtorEq, e, hcp]
    rw [if_pos (by simp [e])] at hsu
    exact ⟨k + 1, by rw [hsu]; simp [encN], by omega, by omega⟩
 ·simp -implicitDefEqProofs (disch := omega) only [↓reduceIte, go_sem, reduceToNat, reduceAdd, reduceLeDiff, reduceEqDiff, reduceSub, reduceMul, reduceCtorEq]
  rw [hend (by omega)]
  exact ⟨rfl, rfl⟩
theorem C12 (f : Fnc) (v : Int) (hl : f.regs.length < 1000000) : Ctr Tryz.prog 12 [.agg (encFn f), .int .i64 v] [] (ret [.int .i64 ((clsO f.regs v).getD (-1))]) := by
 apply ctr_b A12_ok rfl (Nat.le_of_ble_eq_true rfl)
 unfold A12
 simp only [initL, Nat.reduceAdd]
 simp -implicitDefEqProofs (disch := omega) only [↓reduceIte, go_sem, reduceToNat, reduceAdd, reduceLeDiff, reduceEqDiff, reduceSub, reduceMul, reduceCtorEq, encFn]
 refine loopL (σ := Nat) (fun k => ⟨[(1, .int .i64 v), (2, .rp (encFn f)), (5, .int .i64 (k : Int))], []⟩) (fun k => k ≤ f.regs.length ∧ ∀ y ∈ f.regs.take k, (y.id == v) = false) (fun k => f.regs.length - k) 0 (by simp -implicitDefEqProofs (disch := omega) only [↓reduceIte, go_sem, reduceToNat, reduceAdd, reduceLeDiff, reduceEqDiff, reduceSub, reduceMul, reduceCtorEq, encFn]; rfl) ⟨Nat.zero_le _, fun y hy => by cases hy⟩ ?_
 rintro k ⟨hk, hn⟩
 simp -implicitDefEqProofs (disch := omega) only [↓reduceIte, go_sem, reduceToNat, reduceAdd, reduceLeDiff, reduceEqDiff, reduceSub, reduceMul, reduceCtorEq, encFn]
 refine ifD (fun c => ?_) (fun c => ?_)
 ·have ha : f.regs[k]? = some f.regs[k] := List.getElem?_eq_getElem (by omega)
  have htk := snoc_take ha
  generalize f.regs[k] = a at ha htk
  simp -implicitDefEqProofs (disch := omega) only [↓reduceIte, go_sem, reduceToNat, reduceAdd, reduceLeDiff, reduceEqDiff, reduceSub, reduceMul, reduceCtorEq, encFn, ha, encRg]
  refine ifE (fun e1 => ?_) (fun e1 => ?_)
  ·simp -implicitDefEqProofs (disch := omega) only [↓reduceIte, go_sem, reduceToNat, reduceAdd, reduceLeDiff, reduceEqDiff, reduceSub, reduceMul, reduceCtorEq, encFn, ha, encRg]
   have hc : clsO f.regs v = some a.cls := by
    rw [clsO, find_take (k := k) hn ha (by simp [e1])]
    rfl
   rw [hc]
   exact ⟨rfl, rfl⟩
  ·simp -implicitDefEqProofs (disch := omega) only [↓reduceIte, go_sem, reduceToNat, reduceAdd, reduceLeDiff, reduceEqDiff, reduceSub, reduceMul, reduceCtorEq]
   refine ⟨k + 1, rfl, ⟨by omega, fun y hy => ?_⟩, by omega⟩
   rw [htk] at hy
   rcases List.mem_append.1 hy with hy | hy
   ·exact hn y hy
   ·rw [List.mem_singleton.1 hy]
    simp [e1]
 ·simp -implicitDefEqProofs (disch := omega) only [↓reduceIte, go_sem, reduceToNat, reduceAdd, reduceLeDiff, reduceEqDiff, reduceSub, reduceMul, reduceCtorEq]
  have hc : clsO f.regs v = none := by
   rw [clsO, List.find?_eq_none.2 fun y hy => by
    have := hn y (by rw [List.take_of_length_le (by omega)]; exact hy)
    simpa using this]
   rfl
  rw [hc]
  exact ⟨rfl, rfl⟩
theorem C17 (f : Fnc) (b : Nat) (hB : f.blocks.length < 1000000000) (hb : b ≤ f.blocks.length) (hs : sumTo f.blocks f.blocks.length < 1000000000) : Ctr Tryz.prog 17 [.agg (encFn f), .int .i64 (b : Int)] [] (ret [.int .i64 (sumTo f.blocks b : Int)]) := by
 apply ctr_b A17_ok rfl (Nat.le_of_ble_eq_true rfl)
 unfold A17
 simp only [initL, Nat.reduceAdd]
 simp -implicitDefEqProofs (disch := omega) only [↓reduceIte, go_sem, reduceToNat, reduceAdd, reduceLeDiff, reduceEqDiff, reduceSub, reduceMul, reduceCtorEq, encFn]
 refine loopL (σ := Nat) (fun k => ⟨[(1, .int .i64 (b : Int)), (2, .rp (encFn f)), (5, .int .i64 (sumTo f.blocks k : Int)), (6, .int .i64 (k : Int))], []⟩) (fun k => k ≤ b) (fun k => b - k) 0 (by simp -implicitDefEqProofs (disch := omega) only [↓reduceIte, go_sem, reduceToNat, reduceAdd, reduceLeDiff, reduceEqDiff, reduceSub, reduceMul, reduceCtorEq, encFn]; rfl) (Nat.zero_le _) ?_
 intro k hk
 have hmx2 := sumTo_max (bs := f.blocks) (b := k + 1)
 simp -implicitDefEqProofs (disch := omega) only [↓reduceIte, go_sem, reduceToNat, reduceAdd, reduceLeDiff, reduceEqDiff, reduceSub, reduceMul, reduceCtorEq, encFn]
 refine ifD (fun c => ?_) (fun c => ?_)
 ·have hx : f.blocks[k]? = some f.blocks[k] := List.getElem?_eq_getElem (by omega)
  have hs1 := sumTo_succ hx
  generalize f.blocks[k] = x at hx hs1
  have hw : IntKind.i64.wrap ((sumTo f.blocks k : Int) + (x.code.length : Int)) = ((sumTo f.blocks k + x.code.length : Nat) : Int) := by rw [wrap64 (by omega) (by omega)]; omega
  simp -implicitDefEqProofs (disch := omega) only [↓reduceIte, go_sem, reduceToNat, reduceAdd, reduceLeDiff, reduceEqDiff, reduceSub, reduceMul, reduceCtorEq, encFn, hx, encBk, hw]
  exact ⟨k + 1, by rw [hs1]; rfl, by omega, by omega⟩
 ·simp -implicitDefEqProofs (disch := omega) only [↓reduceIte, go_sem, reduceToNat, reduceAdd, reduceLeDiff, reduceEqDiff, reduceSub, reduceMul, reduceCtorEq, encFn]
  rw [show k = b by omega]
  exact ⟨rfl, rfl⟩
/- What holds of a function that is made of a draft: plain. -/
/-- A register of the lists. -/
def RgI (ids : Ids) (o : Opd) : Prop := ∃ w, (w ∈ ids.g ∨ w ∈ ids.x) ∧ o = vregP w
def ArI (ids : Ids) (o : Opd) : Prop := (∃ n, o = immP n) ∨ RgI ids o
def DsI (ids : Ids) (o : Opd) : Prop := o = noOpd ∨ RgI ids o
structure InI (ids : Ids) (x : Ins) : Prop where
 args : ∀ a ∈ x.args, ArI ids a
 dst : DsI ids x.dst
 few : x.args.length ≤ 3
theorem getD_mem {ids : List Nat} {k : Nat} (h : k < ids.length) : ids.getD k 0 ∈ ids := by
 rw [List.getD_eq_getElem?_getD, List.getElem?_eq_getElem h]
 exact List.getElem_mem h
theorem pick_mem {ids : List Nat} {k : Int} (h : 0 < ids.length) : pickP ids k ∈ ids := getD_mem (Nat.mod_lt _ h)
theorem useV_mem {ids has : List Nat} {k : Int} (h : 0 < ids.length) : useV ids has k ∈ ids := by
 unfold useV
 split
 ·exact pick_mem h
 ·exact getD_mem h
section
variable {ids : Ids} (hi : ids.Ok)
include hi
theorem of_len (c : Int) : 0 < (ids.of c).length := by
 unfold Ids.of
 split
 ·exact hi.g0
 ·exact hi.x0
omit hi in
theorem rgI_of {c : Int} {w : Nat} (h : w ∈ ids.of c) : RgI ids (vregP w) := by
 unfold Ids.of at h
 split at h
 ·exact ⟨w, .inl h, rfl⟩
 ·exact ⟨w, .inr h, rfl⟩
theorem rgU_of (c : Int) (has : List Nat) (k : Int) : RgI ids (vregP (useV (ids.of c) has k)) := rgI_of (useV_mem (of_len hi c))
theorem rgP_of (c : Int) (k : Int) : RgI ids (vregP (pickP (ids.of c) k)) := rgI_of (pick_mem (of_len hi c))
theorem rgU_g (has : List Nat) (k : Int) : RgI ids (vregP (useV ids.g has k)) := ⟨_, .inl (useV_mem hi.g0), rfl⟩
theorem rgU_x (has : List Nat) (k : Int) : RgI ids (vregP (useV ids.x has k)) := ⟨_, .inr (useV_mem hi.x0), rfl⟩
theorem rgP_g (k : Int) : RgI ids (vregP (pickP ids.g k)) := ⟨_, .inl (pick_mem hi.g0), rfl⟩
theorem instrP_I (has : List Nat) (d : DIn) : InI ids (instrP ids has d).2 := by
 unfold instrP
 dsimp only
 split
 ·refine ⟨fun a ha => ?_, .inr (rgP_of hi _ _), by simp⟩
  rw [List.mem_singleton.1 ha]
  split
  ·exact .inr (rgU_of hi _ _ _)
  ·exact .inl ⟨_, rfl⟩
 ·split
  ·refine ⟨fun a ha => ?_, .inr (rgP_g hi _), by simp⟩
   rw [List.mem_singleton.1 ha]
   exact .inr (rgU_x hi _ _)
  ·split
   ·refine ⟨fun a ha => ?_, .inl rfl, by simp⟩
    simp only [List.mem_cons, List.not_mem_nil, or_false] at ha
    rcases ha with rfl | rfl
    ·exact .inr (rgU_g hi _ _)
    ·exact .inr (rgU_x hi _ _)
   ·split
    ·refine ⟨fun a ha => ?_, ?_, by simp; omega⟩
     ·have ⟨i, _, e⟩ := List.mem_map.1 ha
      rw [← e, callArg]
      split
      ·exact .inl ⟨_, rfl⟩
      ·exact .inr (rgU_g hi _ _)
     ·show DsI ids (if 0 < d.d % 3 then vregP (pickP ids.g d.d) else noOpd)
      split
      ·exact .inr (rgP_g hi _)
      ·exact .inl rfl
    ·refine ⟨fun a ha => ?_, .inr (rgP_g hi _), by simp⟩
     simp only [List.mem_cons, List.not_mem_nil, or_false] at ha
     rcases ha with rfl | rfl
     ·exact .inr (rgU_g hi _ _)
     ·split
      ·exact .inr (rgU_g hi _ _)
      ·exact .inl ⟨_, rfl⟩
theorem codeP_I : ∀ {l : List DIn} {has : List Nat}, ∀ x ∈ (codeP ids has l).2, InI ids x
 | [], _, x, h => by simp only [codeP] at h; cases h
 | i :: l, has, x, h => by
  simp only [codeP] at h
  rcases List.mem_cons.1 h with rfl | h
  ·exact instrP_I hi _ _
  ·exact codeP_I x h
theorem lastP2_I (has : List Nat) (b : DBk) (i n : Nat) : InI ids (lastP2 ids has b i n) ∧ (lastP2 ids has b i n).dst = noOpd ∧ (20 ≤ (lastP2 ids has b i n).op ∧ (lastP2 ids has b i n).op ≤ 23) := by
 have hv : RgI ids (lastV ids has b) := rgU_g hi _ _
 have h0 : ∀ (l : List Opd) (op : Int) (ls : List ByteArray) (cs : List Int), (20 ≤ op ∧ op ≤ 23) → (∀ a ∈ l, ArI ids a) → l.length ≤ 3 → InI ids ⟨op, noOpd, l, .empty, 0, ls, cs⟩ ∧ (⟨op, noOpd, l, .empty, 0, ls, cs⟩ : Ins).dst = noOpd ∧ (20 ≤ op ∧ op ≤ 23) := fun l op ls cs ho hl hn => ⟨⟨hl, .inl rfl, hn⟩, rfl, ho⟩
 have h1 : ∀ a ∈ [lastV ids has b], ArI ids a := fun a ha => by
  rw [List.mem_singleton.1 ha]
  exact .inr hv
 unfold lastP2
 dsimp only
 split
 ·refine h0 _ _ _ _ (by omega) (fun a ha => ?_) (by simp)
  rw [List.mem_singleton.1 ha]
  split
  ·exact .inl ⟨_, rfl⟩
  ·exact .inr hv
 ·split
  ·split
   ·exact h0 _ _ _ _ (by omega) h1 (by simp)
   ·exact h0 _ _ _ _ (by omega) h1 (by simp)
  ·split
   ·split
    ·exact h0 _ _ _ _ (by omega) h1 (by simp)
    ·exact h0 _ _ _ _ (by omega) h1 (by simp)
   ·exact h0 _ _ _ _ (by omega) (fun a ha => by cases ha) (by simp)
end
theorem drIds_ok (d : Drf) : (drIds d).Ok := by
 refine ⟨?_, ?_, ?_, ?_⟩ <;> simp only [drIds, idsP, List.length_map, List.length_range] <;> omega
theorem regP_mem {d : Drf} {w : Nat} (h : w ∈ (drIds d).g ∨ w ∈ (drIds d).x) : w ∈ regP d 12 := by
 unfold regP
 rw [List.mem_filter, List.mem_range]
 rcases h with h | h
 ·simp only [drIds, idsP, List.mem_map, List.mem_range] at h
  have ⟨i, hi, e⟩ := h
  have e2 : w % 2 = 0 := by omega
  refine ⟨by omega, decide_eq_true ?_⟩
  rw [e2, cntP, if_pos rfl]
  omega
 ·simp only [drIds, idsP, List.mem_map, List.mem_range] at h
  have ⟨i, hi, e⟩ := h
  have e2 : w % 2 = 1 := by omega
  refine ⟨by omega, decide_eq_true ?_⟩
  rw [e2, cntP, if_neg (by decide)]
  omega
theorem regP_ids {d : Drf} {w : Nat} (h : w ∈ regP d 12) : w ∈ (drIds d).g ∨ w ∈ (drIds d).x := by
 unfold regP at h
 rw [List.mem_filter, List.mem_range] at h
 have h2 := of_decide_eq_true h.2
 by_cases e : w % 2 = 0
 ·left
  rw [e, cntP, if_pos rfl] at h2
  simp only [drIds, idsP, List.mem_map, List.mem_range]
  exact ⟨w / 2, h2, by omega⟩
 ·right
  rw [show w % 2 = 1 by omega, cntP, if_neg (by decide)] at h2
  simp only [drIds, idsP, List.mem_map, List.mem_range]
  exact ⟨w / 2, h2, by omega⟩
theorem startTo_I {d : Drf} {n : Nat} (hn : n ≤ (regP d 12).length) : ∀ x ∈ startTo d n, InI (drIds d) x := by
 intro x hx
 unfold startTo at hx
 obtain ⟨v, hv, rfl⟩ := List.mem_map.1 hx
 rw [List.mem_filter, List.mem_range] at hv
 refine ⟨fun a ha => ?_, .inr ⟨_, regP_ids (getD_mem (by omega)), rfl⟩, by simp [startI]⟩
 simp only [startI, List.mem_singleton] at ha
 exact .inl ⟨_, ha⟩
theorem blkP_I {d : Drf} {i : Nat} : ∀ x ∈ (blkP d i).code, InI (drIds d) x := by
 intro x hx
 simp only [blkP] at hx
 rcases List.mem_append.1 hx with hx | hx
 ·rcases List.mem_append.1 hx with hx | hx
  ·split at hx
   ·exact startTo_I (Nat.le_refl _) x hx
   ·cases hx
  ·exact codeP_I (drIds_ok d) x hx
 ·rw [List.mem_singleton.1 hx]
  exact (lastP2_I (drIds_ok d) _ _ _ _).1
theorem blkP_last {d : Drf} {i : Nat} : ∃ l has, (blkP d i).code = l ++ [lastP2 (drIds d) has (d.blocks.getD i noDB) i (nBlk d)] := ⟨_, _, rfl⟩
theorem makeP_blk {d : Drf} {i : Nat} (h : i < nBlk d) : (makeP d).blocks[i]? = some (blkP d i) := by
 simp only [makeP, List.getElem?_map, List.getElem?_range h, Option.map_some]
theorem known_make {d : Drf} {w : Nat} (h : w ∈ regP d 12) : knownF (makeP d) (w : Int) = true := by
 refine List.any_eq_true.2 ⟨⟨(w : Int), ((w % 2 : Nat) : Int)⟩, ?_, decide_eq_true rfl⟩
 simp only [makeP, List.mem_map]
 exact ⟨w, h, rfl⟩
theorem label_inj : ∀ i : Nat, i < 10 → ∀ j : Nat, j < 10 → labelP i = labelP j → i = j := by decide
theorem find_label {d : Drf} (hn : nBlk d ≤ 9) {s : Nat} (hs : s < nBlk d) : findN (makeP d).blocks (labelP s) = some s := by
 refine findN_of (makeP_blk hs) rfl fun j hj c hc => ?_
 have hjb : j < nBlk d := by omega
 rw [makeP_blk hjb] at hc
 rw [← Option.some.inj hc]
 intro e
 have := label_inj j (by omega) s (by omega) e
 omega
/-- Each label of a block's last instruction is a block's. -/
theorem last_labels {ids : Ids} {has : List Nat} {b : DBk} {i n : Nat} (hin : i < n) : ∀ l ∈ (lastP2 ids has b i n).labels, ∃ s, s < n ∧ l = labelP s := by
 have hg : ∀ k, ¬ n = 1 → ∃ s, s < n ∧ goalP k n = labelP s := fun k h1 => ⟨1 + k.toNat % (n - 1), by have := Nat.mod_lt k.toNat (show 0 < n - 1 by omega); omega, rfl⟩
 have hnx : ¬ n = 1 → ∃ s, s < n ∧ (if i + 1 < n then labelP (i + 1) else goalP b.a n) = labelP s := fun h1 => by
  split
  ·exact ⟨i + 1, by omega, rfl⟩
  ·exact hg _ h1
 unfold lastP2
 dsimp only
 split
 ·intro l hl; cases hl
 ·rename_i hno
  have h1 : ¬ n = 1 := fun e => hno (.inl e)
  have hN := hnx h1
  generalize (if i + 1 < n then labelP (i + 1) else goalP b.a n) = nx at hN
  have h2 : ∀ k, ∀ l ∈ [nx, goalP k n], ∃ s, s < n ∧ l = labelP s := fun k l hl => by
   simp only [List.mem_cons, List.not_mem_nil, or_false] at hl
   rcases hl with rfl | rfl
   ·exact hN
   ·exact hg _ h1
  have h3 : ∀ k, ∀ l ∈ [goalP k n, nx], ∃ s, s < n ∧ l = labelP s := fun k l hl => by
   simp only [List.mem_cons, List.not_mem_nil, or_false] at hl
   rcases hl with rfl | rfl
   ·exact hg _ h1
   ·exact hN
  split
  ·split
   ·exact h2 _
   ·exact h3 _
  ·split
   ·split
    ·exact h3 _
    ·intro l hl
     simp only [List.mem_cons, List.not_mem_nil, or_false] at hl
     rcases hl with rfl | rfl | rfl
     ·exact hg _ h1
     ·exact hg _ h1
     ·exact hN
   ·intro l hl
    rw [List.mem_singleton.1 hl]
    exact hN
theorem mem_step {bs : List Blk} : ∀ {ls : List ByteArray} {acc : List Nat} {s : Nat}, (s ∈ acc ∨ ∃ l ∈ ls, findN bs l = some s) → s ∈ ls.foldl (Go.AM.stepL bs) acc
 | [], acc, s, h => by
  rcases h with h | ⟨l, hl, _⟩
  ·exact h
  ·cases hl
 | x :: ls, acc, s, h => by
  refine mem_step (ls := ls) (acc := Go.AM.stepL bs acc x) ?_
  rcases h with h | ⟨l, hl, hf⟩
  ·left
   unfold Go.AM.stepL
   split
   ·split
    ·exact h
    ·exact List.mem_append_left _ h
   ·exact h
  ·rcases List.mem_cons.1 hl with rfl | hl
   ·left
    unfold Go.AM.stepL
    rw [hf]
    simp only
    split
    ·assumption
    ·exact List.mem_append_right _ (List.mem_singleton.2 rfl)
   ·exact .inr ⟨l, hl, hf⟩
/-- What the laws take of a made function. -/
structure MkOk (f : Fnc) : Prop where
 new : NewOk f
 nb : 1 ≤ f.blocks.length
 ne : ∀ b ∈ f.blocks, 0 < b.code.length
 few : ∀ b ∈ f.blocks, ∀ x ∈ b.code, x.args.length ≤ 3
 kind : ∀ b ∈ f.blocks, ∀ x ∈ b.code, ∀ a ∈ x.args, a.kind = 4 ∨ (a.kind = 1 ∧ knownF f a.n = true)
 dst : ∀ b ∈ f.blocks, ∀ x ∈ b.code, x.dst.kind = 1 → knownF f x.dst.n = true
 last : ∀ (i : Nat) b, f.blocks[i]? = some b → (insAtF f i (b.code.length - 1)).dst.kind = 0 ∧ ∀ l ∈ (insAtF f i (b.code.length - 1)).labels, ∃ s, s < f.blocks.length ∧ findN f.blocks l = some s ∧ s ∈ rowAt (succF f.blocks) i
 lab3 : ∀ (i : Nat) b, f.blocks[i]? = some b → (insAtF f i (b.code.length - 1)).labels.length ≤ 3
 cls : ∀ v, knownF f v = true → clsO f.regs v = some 0 ∨ clsO f.regs v = some 1
theorem makeP_mk {d : Drf} (hb : d.blocks.length ≤ 9) (hc : ∀ b ∈ d.blocks, b.code.length ≤ 100) : MkOk (makeP d) := by
 have hn := nBlk_le hb
 have hn1 := nBlk_pos (d := d)
 have hlen := makeP_len (d := d)
 have hbk : ∀ b ∈ (makeP d).blocks, ∃ i, i < nBlk d ∧ b = blkP d i := fun b hb => by
  simp only [makeP, List.mem_map, List.mem_range] at hb
  have ⟨i, hi, e⟩ := hb
  exact ⟨i, hi, e.symm⟩
 have hcl : ∀ i, (blkP d i).code.length ≤ 200 := fun i => by
  have hq : (d.blocks.getD i noDB).code.length ≤ 100 := by
   by_cases hh : i < d.blocks.length
   ·rw [show d.blocks.getD i noDB = d.blocks[i] by simp [List.getD_eq_getElem?_getD, hh]]
    exact hc _ (List.getElem_mem hh)
   ·rw [show d.blocks.getD i noDB = noDB by simp [List.getD_eq_getElem?_getD, show d.blocks.length ≤ i by omega]]
    simp [noDB]
  have hs := startTo_len (d := d) (n := (regP d 12).length)
  have hr := regP_len (d := d)
  simp only [blkP, List.length_append, codeP_len, List.length_cons, List.length_nil]
  split
  ·omega
  ·simp only [List.length_nil]; omega
 have hkn : ∀ o, RgI (drIds d) o → o.kind = 1 ∧ knownF (makeP d) o.n = true := by
  rintro o ⟨w, hw, rfl⟩
  exact ⟨rfl, known_make (regP_mem hw)⟩
 have hlab : ∀ b ∈ (makeP d).blocks, ∀ x ∈ b.code, x.labels.length ≤ 9223372036854775807 := fun b hb x hx => ((makeP_ok (fun b hb => by have := hc b hb; omega) b hb).2 x hx)
 have hla : ∀ (i : Nat) b, (makeP d).blocks[i]? = some b → ∃ has, i < nBlk d ∧ b = blkP d i ∧ insAtF (makeP d) i (b.code.length - 1) = lastP2 (drIds d) has (d.blocks.getD i noDB) i (nBlk d) ∧ b.code.getLast? = some (lastP2 (drIds d) has (d.blocks.getD i noDB) i (nBlk d)) := by
  intro i b hib
  have hi := (List.getElem?_eq_some_iff.1 hib).1
  rw [hlen] at hi
  have hib2 := hib
  rw [makeP_blk hi] at hib
  have e := Option.some.inj hib
  have ⟨l, has, hl⟩ := blkP_last (d := d) (i := i)
  refine ⟨has, hi, e.symm, ?_, by rw [← e, hl]; simp⟩
  rw [insAtF, blkAt_get hib2, ← e, hl, List.getD_eq_getElem?_getD]
  simp
 refine ⟨newOk_of (by omega) ?_ (fun b hb => ?_), by omega, fun b hb => ?_, fun b hb x hx => ?_, fun b hb x hx a ha => ?_, fun b hb x hx hk => ?_, fun i b hib => ?_, fun i b hib => ?_, fun v hv => ?_⟩
 ·have hr := regP_len (d := d)
  simp only [makeP, List.length_map]
  omega
 ·have ⟨i, hi, e⟩ := hbk b hb
  refine ⟨by have := hcl i; rw [e]; omega, fun x hx => ⟨?_, hlab b hb x hx⟩⟩
  rw [e] at hx
  have := (blkP_I x hx).few
  omega
 ·have ⟨i, hi, e⟩ := hbk b hb
  have ⟨l, has, hl⟩ := blkP_last (d := d) (i := i)
  rw [e, hl]
  simp
 ·have ⟨i, hi, e⟩ := hbk b hb
  rw [e] at hx
  exact (blkP_I x hx).few
 ·have ⟨i, hi, e⟩ := hbk b hb
  rw [e] at hx
  rcases (blkP_I x hx).args a ha with ⟨n, h⟩ | h
  ·left
   rw [h]
   rfl
  ·exact .inr (hkn a h)
 ·have ⟨i, hi, e⟩ := hbk b hb
  rw [e] at hx
  rcases (blkP_I x hx).dst with h | h
  ·rw [h] at hk
   cases hk
  ·exact (hkn _ h).2
 ·have ⟨has, hi, e, h1, h2⟩ := hla i b hib
  have hI := lastP2_I (drIds_ok d) has (d.blocks.getD i noDB) i (nBlk d)
  rw [h1]
  refine ⟨by rw [hI.2.1]; rfl, fun l hl => ?_⟩
  have ⟨s, hs, hls⟩ := last_labels hi l hl
  refine ⟨s, by omega, by rw [hls]; exact find_label hn hs, ?_⟩
  have hr : rowAt (succF (makeP d).blocks) i = succB (makeP d).blocks b := by
   rw [rowAt, List.getD_eq_getElem?_getD, succF, List.getElem?_map, hib]
   rfl
  have hlo : labelsOf b = (lastP2 (drIds d) has (d.blocks.getD i noDB) i (nBlk d)).labels := by
   unfold labelsOf lastOp
   rw [h2]
   simp only
   rw [if_pos hI.2.2]
  rw [hr, succB, hlo]
  exact mem_step (.inr ⟨l, hl, by rw [hls]; exact find_label hn hs⟩)
 ·have ⟨has, hi, e, h1, h2⟩ := hla i b hib
  rw [h1]
  exact lastP2_labels
 ·have ⟨g, hg, e⟩ := List.any_eq_true.1 hv
  unfold clsO
  cases hf : (makeP d).regs.find? (fun r => r.id == v) with
  | none =>
   exfalso
   have := List.find?_eq_none.1 hf g hg
   exact this (by simpa using e)
  | some r =>
   have hm := List.mem_of_find?_eq_some hf
   simp only [makeP, List.mem_map] at hm
   have ⟨w, _, e⟩ := hm
   rw [← e]
   have : w % 2 = 0 ∨ w % 2 = 1 := by omega
   rcases this with h | h
   ·left
    simp [h]
   ·right
    simp [h]
/- What is present in a made function: plain. -/
theorem mem_uses {x : Ins} (hk : ∀ a ∈ x.args, a.kind = 4 ∨ a.kind = 1) {u : Int} (h : u ∈ usesX x) : takesX x u = true := by
 have : ∀ (l : List Opd) (out : List Int), (∀ a ∈ l, a.kind = 4 ∨ a.kind = 1) → u ∈ l.foldl usesS out → u ∈ out ∨ (l.any fun a => decide (a.kind = 1) && decide (a.n = u)) = true := by
  intro l
  induction l with
  | nil => intro out _ h; exact .inl h
  | cons a l ih =>
   intro out hk h
   rw [List.foldl_cons] at h
   rcases ih _ (fun b hb => hk b (List.mem_cons_of_mem _ hb)) h with h | h
   ·unfold usesS at h
    split at h
    ·rename_i c
     rcases List.mem_append.1 h with h | h
     ·exact .inl h
     ·right
      have e := List.mem_singleton.1 h
      rw [Bool.and_eq_true] at c
      have c1 := c.1
      unfold valP at c1 e
      by_cases k1 : a.kind = 1
      ·rw [if_pos k1] at e
       rw [List.any_cons, Bool.or_eq_true]
       left
       rw [decide_eq_true k1, decide_eq_true e.symm]
       rfl
      ·have k4 := (hk a List.mem_cons_self).resolve_right k1
       rw [if_neg k1] at c1
       simp [k4] at c1
    ·exact .inl h
   ·right
    rw [List.any_cons, h, Bool.or_true]
 rcases this x.args [] hk h with h | h
 ·cases h
 ·exact h
section
variable {f : Fnc}
theorem pres_known (h : NewOk f) {p v : Int} (hv : v ∈ presL f (idsU f) ((lastL f).map (·.2)) p) : knownF f v = true := by
 rw [known_iff]
 unfold presL at hv
 split at hv
 ·cases hv
 ·rename_i s e
  have ⟨k, _, e⟩ := (mem_listL (atO_len (LvOk.of h) e)).1 hv
  exact List.mem_of_getElem? e
theorem insAt_get {b i : Nat} {B : Blk} (hB : f.blocks[b]? = some B) (hi : i < B.code.length) : B.code[i]? = some (insAtF f b i) ∧ B.code.drop i = insAtF f b i :: B.code.drop (i + 1) := by
 have e : insAtF f b i = B.code[i] := by rw [insAtF, blkAt_get hB, List.getD_eq_getElem?_getD, List.getElem?_eq_getElem hi]; rfl
 rw [e]
 exact ⟨List.getElem?_eq_getElem hi, List.drop_eq_getElem_cons hi⟩
theorem uses_pres (h : MkOk f) {b i : Nat} {B : Blk} (hB : f.blocks[b]? = some B) (hi : i < B.code.length) {u : Int} (hu : u ∈ usesX (insAtF f b i)) : u ∈ presL f (idsU f) ((lastL f).map (·.2)) (2 * ((sumTo f.blocks b + i : Nat) : Int)) := by
 have hb := (List.getElem?_eq_some_iff.1 hB).1
 have ⟨hx, hd⟩ := insAt_get hB hi
 have hBm := List.mem_of_getElem? hB
 have hxm := List.mem_of_getElem? hx
 have hk := h.kind B hBm _ hxm
 have ht := mem_uses (fun a ha => (hk a ha).imp id (fun q => q.1)) hu
 have ⟨a, ha, e⟩ := List.any_eq_true.1 ht
 rw [Bool.and_eq_true] at e
 have e1 := of_decide_eq_true e.1
 have e2 := of_decide_eq_true e.2
 have hkn : knownF f u = true := by
  rcases hk a ha with k | k
  ·omega
  ·rw [← e2]; exact k.2
 have hat : PtAt f.blocks (2 * ((sumTo f.blocks b + i : Nat) : Int)) b i false := ⟨B, hB, hi, by simp, fun e => by cases e⟩
 rw [mem_pres h.new, presB_at hat, if_neg (by decide), want_iff h.new.inn hb]
 refine ⟨hkn, .loc ?_⟩
 rw [blkAt_get hB, hd, scanL, if_pos ht]
theorem dst_pres (h : MkOk f) {b i : Nat} {B : Blk} (hB : f.blocks[b]? = some B) (hi : i < B.code.length) (hd : (insAtF f b i).dst.kind = 1) : (insAtF f b i).dst.n ∈ presL f (idsU f) ((lastL f).map (·.2)) (2 * ((sumTo f.blocks b + i : Nat) : Int) + 1) := by
 have ⟨hx, _⟩ := insAt_get hB hi
 have hl : i + 1 < B.code.length := by
  refine Decidable.byContradiction fun hn => ?_
  have := (h.last b B hB).1
  rw [show B.code.length - 1 = i by omega, hd] at this
  cases this
 have hat : PtAt f.blocks (2 * ((sumTo f.blocks b + i : Nat) : Int) + 1) b i true := ⟨B, hB, hi, by rw [if_pos rfl], fun _ => hl⟩
 rw [mem_pres h.new, presB_at hat, if_pos rfl, Bool.or_eq_true, Bool.and_eq_true]
 left
 exact ⟨h.dst B (List.mem_of_getElem? hB) _ (List.mem_of_getElem? hx) hd, by simp [givesX, hd]⟩
theorem last_wnt (h : MkOk f) {b s : Nat} {B : Blk} (hB : f.blocks[b]? = some B) (hs : s ∈ rowAt (succF f.blocks) b) {v : Int} (hw : Wnt f (succF f.blocks) v s 0) : Wnt f (succF f.blocks) v b (B.code.length - 1) ∧ Wnt f (succF f.blocks) v b B.code.length := by
 have hne := h.ne B (List.mem_of_getElem? hB)
 have ⟨hx, hd⟩ := insAt_get hB (i := B.code.length - 1) (by omega)
 rw [show B.code.length - 1 + 1 = B.code.length by omega, List.drop_eq_nil_of_le (Nat.le_refl _)] at hd
 have hk := (h.last b B hB).1
 generalize insAtF f b (B.code.length - 1) = x at hd hk
 have h2 : Wnt f (succF f.blocks) v b B.code.length := .go (by rw [blkAt_get hB, List.drop_eq_nil_of_le (Nat.le_refl _)]; rfl) hs hw
 refine ⟨?_, h2⟩
 by_cases ht : takesX x v = true
 ·exact .loc (by rw [blkAt_get hB, hd, scanL, if_pos ht])
 ·refine .go ?_ hs hw
  rw [blkAt_get hB, hd, scanL, if_neg ht, if_neg (by simp [givesX, hk])]
  rfl
theorem succ_pres (h : MkOk f) {b s : Nat} {B : Blk} (hB : f.blocks[b]? = some B) (hs : s ∈ rowAt (succF f.blocks) b) {v : Int} (hv : v ∈ listL (idsU f) (insAt (lastL f) s)) :
  v ∈ presL f (idsU f) ((lastL f).map (·.2)) (2 * ((sumTo f.blocks b + (B.code.length - 1) : Nat) : Int)) ∧ v ∈ listL (idsU f) (outAt (lastL f) b) := by
 have hb := (List.getElem?_eq_some_iff.1 hB).1
 have hne := h.ne B (List.mem_of_getElem? hB)
 have hsb := rowAt_lt h.new.inn hb s hs
 have hin := in_want h.new hsb v
 rw [decide_eq_true hv] at hin
 have ⟨hkn, hw⟩ := (want_iff h.new.inn hsb).1 hin.symm
 have ⟨w1, w2⟩ := last_wnt h hB hs hw
 have hat : PtAt f.blocks (2 * ((sumTo f.blocks b + (B.code.length - 1) : Nat) : Int)) b (B.code.length - 1) false := ⟨B, hB, by omega, by simp, fun e => by cases e⟩
 constructor
 ·rw [mem_pres h.new, presB_at hat, if_neg (by decide), want_iff h.new.inn hb]
  exact ⟨hkn, w1⟩
 ·have ho := out_want h.new hb (i := B.code.length) (by rw [blkAt_get hB]; exact Nat.le_refl _) v
  rw [(want_iff h.new.inn hb).2 ⟨hkn, w2⟩] at ho
  exact of_decide_eq_true ho
end
end Go.Proofs.YtgbmneoeggdaoaaGreatDoor.X
