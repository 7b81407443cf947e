/- A function as data; where its blocks may go on: plain. -/
import Derived.Test.YticjemfgbfphdaaXam5
import Derived.Test.YticjemfgbfphdaaXa
import Derived.Test.YticjemfgbfphdaaXaso
namespace Go.AM
open Go
set_option linter.unusedVariables false
structure Opd where
  kind : Int
  cls : Int
  n : Int
  tag : Int
structure Ins where
  op : Int
  dst : Opd
  args : List Opd
  name : ByteArray
  off : Int
  labels : List ByteArray
  cases : List Int
structure Blk where
  label : ByteArray
  edge : Bool
  ins : List Opd
  code : List Ins
structure Rg where
  id : Int
  cls : Int
structure Fnc where
  machine : Bool
  name : ByteArray
  regs : List Rg
  params : List Opd
  blocks : List Blk
def encO (o : Opd) : List AV := [.int .i64 o.kind, .int .i64 o.cls, .int .i64 o.n, .int .i64 o.tag]
def encRg (r : Rg) : List AV := [.int .i64 r.id, .int .i64 r.cls]
def encSt (s : ByteArray) : List AV := [.str s]
def encCs (n : Int) : List AV := [.int .i64 n]
def encIn (i : Ins) : List AV := [.int .i64 i.op, .int .i64 i.dst.kind, .int .i64 i.dst.cls, .int .i64 i.dst.n, .int .i64 i.dst.tag, .sl (i.args.map encO), .str i.name, .int .i64 i.off, .sl (i.labels.map encSt), .sl (i.cases.map encCs)]
def encBk (b : Blk) : List AV := [.str b.label, .bool b.edge, .sl (b.ins.map encO), .sl (b.code.map encIn)]
def encFn (f : Fnc) : List AV := [.bool f.machine, .str f.name, .sl (f.regs.map encRg), .sl (f.params.map encO), .sl (f.blocks.map encBk)]
/-- Numbers of blocks. -/
def encK (n : Nat) : List AV := [.int .i64 (n : Int)]
def encRow (r : List Nat) : List AV := [.sl (r.map encK)]
def encRows (s : List (List Nat)) : List (List AV) := s.map encRow
/-- The first block of a label. -/
def findN (bs : List Blk) (l : ByteArray) : Option Nat := bs.findIdx? fun b => decide (b.label = l)
def optZ (o : Option Nat) : Int := match o with | some i => i | none => -1
def findI (bs : List Blk) (l : ByteArray) : Int := optZ (findN bs l)
theorem findN_some {bs : List Blk} {l : ByteArray} {i : Nat} (h : findN bs l = some i) : i < bs.length := by
  unfold findN at h
  rw [List.findIdx?_eq_some_iff_getElem] at h
  exact h.1
theorem findN_of {bs : List Blk} {l : ByteArray} {s : Nat} {b : Blk} (hb : bs[s]? = some b) (he : b.label = l) (h : ∀ j, j < s → ∀ c, bs[j]? = some c → c.label ≠ l) : findN bs l = some s := by
  unfold findN
  rw [List.findIdx?_eq_some_iff_getElem]
  obtain ⟨hs, rfl⟩ := List.getElem?_eq_some_iff.1 hb
  refine ⟨hs, by simp [he], fun j hj => ?_⟩
  have := h j hj bs[j] (List.getElem?_eq_getElem (by omega))
  simp [this]
theorem findN_none {bs : List Blk} {l : ByteArray} (h : ∀ j, j < bs.length → ∀ c, bs[j]? = some c → c.label ≠ l) : findN bs l = none := by
  unfold findN
  rw [List.findIdx?_eq_none_iff]
  intro b hb
  obtain ⟨j, hj, rfl⟩ := List.getElem_of_mem hb
  simpa using h j hj _ (List.getElem?_eq_getElem hj)
/-- One label more. -/
def stepL (bs : List Blk) (l : List Nat) (lb : ByteArray) : List Nat := match findN bs lb with | some t => if t ∈ l then l else l ++ [t] | none => l
def lastOp (b : Blk) : Option Ins := match b.code.getLast? with | some i => if 20 ≤ i.op ∧ i.op ≤ 23 then some i else none | none => none
def labelsOf (b : Blk) : List ByteArray := match lastOp b with | some i => i.labels | none => []
def succB (bs : List Blk) (b : Blk) : List Nat := (labelsOf b).foldl (stepL bs) []
def succF (bs : List Blk) : List (List Nat) := bs.map (succB bs)
theorem stepL_lt {bs : List Blk} {l : List Nat} {lb : ByteArray} (h : ∀ x ∈ l, x < bs.length) : ∀ x ∈ stepL bs l lb, x < bs.length := by
  unfold stepL
  intro x hx
  split at hx
  · rename_i t ht
    split at hx
    · exact h x hx
    · rcases List.mem_append.1 hx with hx | hx
      · exact h x hx
      · rw [List.mem_singleton.1 hx]
        exact findN_some ht
  · exact h x hx
theorem stepL_nodup {bs : List Blk} {l : List Nat} {lb : ByteArray} (h : l.Nodup) : (stepL bs l lb).Nodup := by
  unfold stepL
  split
  · split
    · exact h
    · rename_i t _ ht
      rw [List.nodup_append]
      exact ⟨h, by simp, fun a ha b hb => by simp at hb; subst hb; exact fun e => ht (e ▸ ha)⟩
  · exact h
theorem foldl_inv {α β : Type} {P : β → Prop} {f : β → α → β} (h : ∀ b a, P b → P (f b a)) : ∀ (l : List α) (b : β), P b → P (l.foldl f b)
  | [], b, hb => hb
  | a :: l, b, hb => foldl_inv h l _ (h b a hb)
theorem succB_lt (bs : List Blk) (b : Blk) : ∀ x ∈ succB bs b, x < bs.length := foldl_inv (P := fun l => ∀ x ∈ l, x < bs.length) (fun _ _ h => stepL_lt h) _ _ (fun x hx => by cases hx)
theorem succB_nodup (bs : List Blk) (b : Blk) : (succB bs b).Nodup := foldl_inv (P := List.Nodup) (fun _ _ h => stepL_nodup h) _ _ List.nodup_nil
theorem nodup_le {n : Nat} {l : List Nat} (h : l.Nodup) (hl : ∀ x ∈ l, x < n) : l.length ≤ n := by
  have := List.Nodup.length_le_of_subset h (l₂ := List.range n) (fun x hx => List.mem_range.2 (hl x hx))
  simpa using this
theorem succB_len (bs : List Blk) (b : Blk) : (succB bs b).length ≤ bs.length := nodup_le (succB_nodup bs b) (succB_lt bs b)
/-- Which blocks may go on with one. -/
def predR (s : List (List Nat)) (t : Nat) : List Nat := (List.range s.length).filter fun i => decide (t ∈ s.getD i [])
def predF (s : List (List Nat)) : List (List Nat) := (List.range s.length).map (predR s)
theorem snoc_take {α : Type} {l : List α} {i : Nat} {x : α} (h : l[i]? = some x) : l.take (i + 1) = l.take i ++ [x] := by
  rw [List.take_add_one, h]; rfl
end Go.AM
/- Find, In, Contains, Clone, what a block ends with. -/
namespace Go.Proofs.Yticjemfgbfphdaa.X
open Go Go.AM Go.Proofs
attribute [local go_sem ↓] w_skip w_lbl w_ops w_draw w_pre w_post w_alt w_seq w_cond w_block w_join w_loop w_exit w_ret w_scope w_rfunc l_nil l_cons th_n th_e th_r bk_n bk_r bk_e t_nil t_it t_call i_nil i_one i_grp s_nil s_cons c_call e_mv e_nil e_dyn e_nilb e_frz o_mov o_bin o_eq o_un o_conv o_len o_slen o_idx o_aix o_fad o_load o_store o_boxp o_boxo o_boxm o_alloc o_allocm o_alloca o_nilarr o_build o_bslp o_bslo o_slc o_sslc o_slc3 o_sidx o_mkfn o_mkmv o_vidx o_ext o_pick o_callf o_callb o_appd o_clear o_mxn o_field o_nilc o_make o_makeb o_buildm o_boxg o_mkif o_tass o_eqs o_callo o_callx k_int k_str k_bool k_grb k_grt k_some k_none k_arr k_lens k_lenf k_lenh k_lenb k_idxb k_idxs k_idxf k_idxh k_ld k_loadp k_loadr k_loade k_storer k_storee k_oin k_ois k_slcs k_slcf k_slch k_slc3s k_slc3f k_slc3h k_app2 k_apps k_appf k_apph k_cals k_cald k_cali k_cnb k_cna k_esn k_esc k_efn k_efc k_esh b_add b_sub b_mul b_quo b_rem b_and b_or b_xor b_andNot b_eql b_neq b_lss b_leq b_gtr b_geq b_shl b_shr b_seq b_sne b_slt b_sad q_bool q_str q_nil q_nilf u_not u_neg u_xor f_ret f_nor v_r v_c v_g v_reg v_ob v_set v_put v_so v_sn v_pn v_pc g_nil d_nil p_nil m_mv m_fr z_nil z_cons z_an z_ac g_cons d_cons p_cons y_mov y_bin y_eq y_un y_conv y_len y_slen y_idx y_aix y_fad y_load y_store y_boxp y_boxo y_boxm y_alloc y_alloca y_allocm y_nilarr y_build y_bslp y_bslo y_slc y_sslc y_slc3 y_sidx y_mkfn y_ext y_pick y_callf y_callb y_appd y_clear y_mxn y_field y_nilc y_make y_makeb y_buildm y_boxg y_mkif y_tass y_eqs y_callo y_mkmv y_callx y_vidx nb_if
attribute [local go_sem] nbd VL_mk VL2_mk If_t If_f If_not If_and If_or If_dt If_df If_et If_ef If_ne Ck_t Ck_h Opt_s ld_a ld_c lm_a lm_c renL ren keepR renA idxM invL getObs mapOb renOb allNone putAll fzR fzO fz fzL fzOb fzB frzOk upFrom mapR resOne resA cellsOf oneA oneAL isP isPL okSt kRows kParts fillA setAt bor bor0 bor1 bor2 borC borI key0 key1 key2 keysA fillM cellsM cellM unif ptrA ifOk kPartsM getObsM allNoneM zipU scal0 scalar eqC evNil evNilF memK keyX hideM xbor scal1 scalX scalOb bndA mkMag showM lendV hideV hideR hideOb hideL hideO showL backO noneO mapA List.map_cons List.map_nil List.cons_append List.nil_append List.append_nil List.drop_zero List.drop_succ_cons List.drop_nil List.take_succ_cons List.take_zero List.take_nil List.length_cons List.length_nil List.length_map List.getElem?_map Option.map_some Option.map_none Int.toNat_natCast Int.toNat_zero Int.toNat_one Int.natCast_nonneg List.flatMap_cons List.flatMap_nil List.all_cons List.all_nil List.any_cons List.any_nil Bool.or_false Bool.false_or Bool.or_true Bool.true_or Bool.and_true Bool.true_and Bool.and_false Bool.false_and Bool.not_true Bool.not_false beq_self_eq_true nb_self all_nil List.forall_mem_cons tk_map tk_app bs_self bs_dec bq_t bq_f Bool.not_not decide_true decide_false Bool.not_not and_self and_true true_and eq_self List.reverse_cons List.reverse_nil List.getElem?_cons_zero List.getElem?_cons_succ cond_true cond_false List.set_cons_zero List.set_cons_succ Nat.zero_add Nat.add_zero if_true if_false ite_true ite_false implies_true wrap64 wrap8
set_option linter.unusedVariables false
set_option linter.unusedSimpArgs false
set_option maxRecDepth 10000
theorem C52 (b : Blk) (l : ByteArray) : Ctr Try.prog 52 [.agg (encBk b), .rp [.str l]] [] (ret [.bool (decide (b.label = l))]) := by
  apply ctr_b A52_ok rfl (Nat.le_of_ble_eq_true rfl)
  unfold A52
  simp only [initL, Nat.reduceAdd, encBk]
  simp (config := {maxSteps := 2000000, implicitDefEqProofs := false}) (disch := omega) only [↓reduceIte, go_sem, Int.reduceToNat, Nat.reduceAdd, Nat.reduceLeDiff, Nat.reduceEqDiff, Nat.reduceSub, Nat.reduceMul, reduceCtorEq]
  exact ⟨rfl, rfl⟩
theorem C51 (bs : List Blk) (l : ByteArray) (hl : bs.length < 1000000) : Ctr Try.prog 51 [.sl (bs.map encBk), .fn 52 [.rp [.str l]]] [] (ret [.int .i64 (findI bs l)]) := by
  apply ctr_b A51_ok rfl (Nat.le_of_ble_eq_true rfl)
  unfold A51
  simp only [initL, Nat.reduceAdd]
  simp (config := {maxSteps := 2000000, implicitDefEqProofs := false}) (disch := omega) only [↓reduceIte, go_sem, Int.reduceToNat, Nat.reduceAdd, Nat.reduceLeDiff, Nat.reduceEqDiff, Nat.reduceSub, Nat.reduceMul, reduceCtorEq]
  refine loopL (σ := Nat) (fun s => ⟨[(0, .sl (bs.map encBk)), (1, .fn 52 [.rp [.str l]]), (7, .int .i64 bs.length), (8, .int .i64 s)], []⟩) (fun s => s ≤ bs.length ∧ ∀ j, j < s → ∀ c, bs[j]? = some c → c.label ≠ l) (fun s => bs.length - s) 0 (by simp (config := {maxSteps := 2000000, implicitDefEqProofs := false}) (disch := omega) only [↓reduceIte, go_sem, Int.reduceToNat, Nat.reduceAdd, Nat.reduceLeDiff, Nat.reduceEqDiff, Nat.reduceSub, Nat.reduceMul, reduceCtorEq]; rfl) ⟨by omega, fun j hj => by omega⟩ ?_
  rintro s ⟨h1, h2⟩
  simp (config := {maxSteps := 2000000, implicitDefEqProofs := false}) (disch := omega) only [↓reduceIte, go_sem, Int.reduceToNat, Nat.reduceAdd, Nat.reduceLeDiff, Nat.reduceEqDiff, Nat.reduceSub, Nat.reduceMul, reduceCtorEq]
  refine ifD (fun c => ?_) (fun c => ?_)
  · obtain ⟨b, hb⟩ : ∃ b, bs[s]? = some b := ⟨bs[s], List.getElem?_eq_getElem (by omega)⟩
    simp (config := {maxSteps := 2000000, implicitDefEqProofs := false}) (disch := omega) only [↓reduceIte, go_sem, Int.reduceToNat, Nat.reduceAdd, Nat.reduceLeDiff, Nat.reduceEqDiff, Nat.reduceSub, Nat.reduceMul, reduceCtorEq, hb]
    have hlen : (encBk b).length = 4 := rfl
    simp (config := {maxSteps := 2000000, implicitDefEqProofs := false}) (disch := omega) only [↓reduceIte, go_sem, Int.reduceToNat, Nat.reduceAdd, Nat.reduceLeDiff, Nat.reduceEqDiff, Nat.reduceSub, Nat.reduceMul, reduceCtorEq, hb, hlen]
    have h4 : List.take 4 (encBk b) = encBk b := List.take_of_length_le (by omega)
    simp (config := {maxSteps := 2000000, implicitDefEqProofs := false}) (disch := omega) only [↓reduceIte, go_sem, Int.reduceToNat, Nat.reduceAdd, Nat.reduceLeDiff, Nat.reduceEqDiff, Nat.reduceSub, Nat.reduceMul, reduceCtorEq, h4]
    refine callL (C52 b l) ?_
    simp (config := {maxSteps := 2000000, implicitDefEqProofs := false}) (disch := omega) only [↓reduceIte, go_sem, Int.reduceToNat, Nat.reduceAdd, Nat.reduceLeDiff, Nat.reduceEqDiff, Nat.reduceSub, Nat.reduceMul, reduceCtorEq]
    refine ifD (fun e => ?_) (fun e => ?_)
    · simp (config := {maxSteps := 2000000, implicitDefEqProofs := false}) (disch := omega) only [↓reduceIte, go_sem, Int.reduceToNat, Nat.reduceAdd, Nat.reduceLeDiff, Nat.reduceEqDiff, Nat.reduceSub, Nat.reduceMul, reduceCtorEq]
      refine ⟨?_, rfl⟩
      rw [findI, findN_of hb e h2]; rfl
    · simp (config := {maxSteps := 2000000, implicitDefEqProofs := false}) (disch := omega) only [↓reduceIte, go_sem, Int.reduceToNat, Nat.reduceAdd, Nat.reduceLeDiff, Nat.reduceEqDiff, Nat.reduceSub, Nat.reduceMul, reduceCtorEq]
      refine ⟨s + 1, by simp, ⟨by omega, fun j hj c hc => ?_⟩, by omega⟩
      by_cases hjs : j = s
      · subst hjs; rw [hb] at hc; cases hc; exact e
      · exact h2 j (by omega) c hc
  · simp (config := {maxSteps := 2000000, implicitDefEqProofs := false}) (disch := omega) only [↓reduceIte, go_sem, Int.reduceToNat, Nat.reduceAdd, Nat.reduceLeDiff, Nat.reduceEqDiff, Nat.reduceSub, Nat.reduceMul, reduceCtorEq]
    refine ⟨?_, rfl⟩
    rw [findI, findN_none fun j hj => h2 j (by omega)]; rfl
theorem C33 (f : Fnc) (l : ByteArray) (hl : f.blocks.length < 1000000) : Ctr Try.prog 33 [.agg (encFn f), .str l] [] (ret [.int .i64 (findI f.blocks l)]) := by
  apply ctr_b A33_ok rfl (Nat.le_of_ble_eq_true rfl)
  unfold A33
  simp only [initL, Nat.reduceAdd, encFn]
  simp (config := {maxSteps := 2000000, implicitDefEqProofs := false}) (disch := omega) only [↓reduceIte, go_sem, Int.reduceToNat, Nat.reduceAdd, Nat.reduceLeDiff, Nat.reduceEqDiff, Nat.reduceSub, Nat.reduceMul, reduceCtorEq]
  refine callL (C51 f.blocks l hl) ?_
  simp (config := {maxSteps := 2000000, implicitDefEqProofs := false}) (disch := omega) only [↓reduceIte, go_sem, Int.reduceToNat, Nat.reduceAdd, Nat.reduceLeDiff, Nat.reduceEqDiff, Nat.reduceSub, Nat.reduceMul, reduceCtorEq]
  exact ⟨rfl, rfl⟩
theorem encK_get {u : List Nat} {s : Nat} (h : s < u.length) : (u.map encK)[s]? = some [.int .i64 (u[s]! : Int)] := by
  rw [List.getElem?_map, List.getElem?_eq_getElem h]
  simp [encK, h]
theorem notin {u : List Nat} {x : Int} (h : ∀ j, j < u.length → ((u[j]! : Nat) : Int) ≠ x) : decide (∃ k ∈ u, (k : Int) = x) = false := by
  rw [decide_eq_false_iff_not]
  rintro ⟨k, hk, rfl⟩
  obtain ⟨j, hj, rfl⟩ := List.getElem_of_mem hk
  exact h j hj (by simp [hj])
theorem C24 (u : List Nat) (x : Int) (hl : u.length < 1000000) : Ctr Try.prog 24 [.sl (u.map encK), .int .i64 x] [] (ret [.bool (decide (∃ k ∈ u, (k : Int) = x))]) := by
  apply ctr_b A24_ok rfl (Nat.le_of_ble_eq_true rfl)
  unfold A24
  simp only [initL, Nat.reduceAdd]
  simp (config := {maxSteps := 2000000, implicitDefEqProofs := false}) (disch := omega) only [↓reduceIte, go_sem, Int.reduceToNat, Nat.reduceAdd, Nat.reduceLeDiff, Nat.reduceEqDiff, Nat.reduceSub, Nat.reduceMul, reduceCtorEq]
  refine loopL (σ := Nat) (fun s => ⟨[(0, .sl (u.map encK)), (1, .int .i64 x), (5, .int .i64 s)], []⟩) (fun s => s ≤ u.length ∧ ∀ j, j < s → ((u[j]! : Nat) : Int) ≠ x) (fun s => u.length - s) 0 (by simp (config := {maxSteps := 2000000, implicitDefEqProofs := false}) (disch := omega) only [↓reduceIte, go_sem, Int.reduceToNat, Nat.reduceAdd, Nat.reduceLeDiff, Nat.reduceEqDiff, Nat.reduceSub, Nat.reduceMul, reduceCtorEq]; rfl) ⟨by omega, fun j hj => by omega⟩ ?_
  rintro s ⟨h1, h2⟩
  simp (config := {maxSteps := 2000000, implicitDefEqProofs := false}) (disch := omega) only [↓reduceIte, go_sem, Int.reduceToNat, Nat.reduceAdd, Nat.reduceLeDiff, Nat.reduceEqDiff, Nat.reduceSub, Nat.reduceMul, reduceCtorEq]
  refine ifD (fun c => ?_) (fun c => ?_)
  · have hs : s < u.length := by omega
    have hg := encK_get hs
    simp (config := {maxSteps := 2000000, implicitDefEqProofs := false}) (disch := omega) only [↓reduceIte, go_sem, Int.reduceToNat, Nat.reduceAdd, Nat.reduceLeDiff, Nat.reduceEqDiff, Nat.reduceSub, Nat.reduceMul, reduceCtorEq, hg]
    refine ifE (fun e => ?_) (fun e => ?_)
    · simp (config := {maxSteps := 2000000, implicitDefEqProofs := false}) (disch := omega) only [↓reduceIte, go_sem, Int.reduceToNat, Nat.reduceAdd, Nat.reduceLeDiff, Nat.reduceEqDiff, Nat.reduceSub, Nat.reduceMul, reduceCtorEq]
      refine ⟨?_, rfl⟩
      rw [show decide (∃ k ∈ u, (k : Int) = x) = true from decide_eq_true ⟨u[s]!, by simp [hs], e⟩]
    · simp (config := {maxSteps := 2000000, implicitDefEqProofs := false}) (disch := omega) only [↓reduceIte, go_sem, Int.reduceToNat, Nat.reduceAdd, Nat.reduceLeDiff, Nat.reduceEqDiff, Nat.reduceSub, Nat.reduceMul, reduceCtorEq]
      refine ⟨s + 1, by simp, ⟨by omega, fun j hj => ?_⟩, by omega⟩
      by_cases hjs : j = s
      · subst hjs; exact e
      · exact h2 j (by omega)
  · simp (config := {maxSteps := 2000000, implicitDefEqProofs := false}) (disch := omega) only [↓reduceIte, go_sem, Int.reduceToNat, Nat.reduceAdd, Nat.reduceLeDiff, Nat.reduceEqDiff, Nat.reduceSub, Nat.reduceMul, reduceCtorEq]
    exact ⟨by rw [notin fun j hj => h2 j (by omega)], rfl⟩
/-- The first place of a number. -/
def idxI (u : List Nat) (x : Int) : Int := optZ (u.findIdx? fun (k : Nat) => decide ((k : Int) = x))
theorem idxI_of {u : List Nat} {x : Int} {s : Nat} (hs : s < u.length) (e : ((u[s]! : Nat) : Int) = x) (h : ∀ j, j < s → ((u[j]! : Nat) : Int) ≠ x) : idxI u x = s := by
  have : u.findIdx? (fun (k : Nat) => decide ((k : Int) = x)) = some s := by
    rw [List.findIdx?_eq_some_iff_getElem]
    refine ⟨hs, by simpa [hs] using e, fun j hj => ?_⟩
    have := h j hj
    simp [show j < u.length by omega] at this
    simpa using this
  rw [idxI, this]; rfl
theorem idxI_none {u : List Nat} {x : Int} (h : ∀ j, j < u.length → ((u[j]! : Nat) : Int) ≠ x) : idxI u x = -1 := by
  have : u.findIdx? (fun (k : Nat) => decide ((k : Int) = x)) = none := by
    rw [List.findIdx?_eq_none_iff]
    intro k hk
    obtain ⟨j, hj, rfl⟩ := List.getElem_of_mem hk
    have := h j hj
    simp [hj] at this
    simpa using this
  rw [idxI, this]; rfl
theorem idxI_ge (u : List Nat) (x : Int) : decide (0 ≤ idxI u x) = decide (∃ k ∈ u, (k : Int) = x) := by
  unfold idxI
  cases h : u.findIdx? fun (k : Nat) => decide ((k : Int) = x) with
  | none =>
    rw [List.findIdx?_eq_none_iff] at h
    have h2 : ¬ ∃ k ∈ u, (k : Int) = x := fun ⟨k, hk, e⟩ => absurd e (by simpa using h k hk)
    rw [decide_eq_false h2]
    rfl
  | some i =>
    rw [List.findIdx?_eq_some_iff_getElem] at h
    obtain ⟨hi, he, _⟩ := h
    have h2 : ∃ k ∈ u, (k : Int) = x := ⟨u[i], List.getElem_mem hi, by simpa using he⟩
    rw [decide_eq_true h2]
    exact decide_eq_true (Int.natCast_nonneg i)
theorem C53 (u : List Nat) (x : Int) (hl : u.length < 1000000) : Ctr Try.prog 53 [.sl (u.map encK), .int .i64 x] [] (ret [.int .i64 (idxI u x)]) := by
  apply ctr_b A53_ok rfl (Nat.le_of_ble_eq_true rfl)
  unfold A53
  simp only [initL, Nat.reduceAdd]
  simp (config := {maxSteps := 2000000, implicitDefEqProofs := false}) (disch := omega) only [↓reduceIte, go_sem, Int.reduceToNat, Nat.reduceAdd, Nat.reduceLeDiff, Nat.reduceEqDiff, Nat.reduceSub, Nat.reduceMul, reduceCtorEq]
  refine loopL (σ := Nat) (fun s => ⟨[(0, .sl (u.map encK)), (1, .int .i64 x), (7, .int .i64 u.length), (8, .int .i64 s)], []⟩) (fun s => s ≤ u.length ∧ ∀ j, j < s → ((u[j]! : Nat) : Int) ≠ x) (fun s => u.length - s) 0 (by simp (config := {maxSteps := 2000000, implicitDefEqProofs := false}) (disch := omega) only [↓reduceIte, go_sem, Int.reduceToNat, Nat.reduceAdd, Nat.reduceLeDiff, Nat.reduceEqDiff, Nat.reduceSub, Nat.reduceMul, reduceCtorEq]; rfl) ⟨by omega, fun j hj => by omega⟩ ?_
  rintro s ⟨h1, h2⟩
  simp (config := {maxSteps := 2000000, implicitDefEqProofs := false}) (disch := omega) only [↓reduceIte, go_sem, Int.reduceToNat, Nat.reduceAdd, Nat.reduceLeDiff, Nat.reduceEqDiff, Nat.reduceSub, Nat.reduceMul, reduceCtorEq]
  refine ifD (fun c => ?_) (fun c => ?_)
  · have hs : s < u.length := by omega
    have hg := encK_get hs
    simp (config := {maxSteps := 2000000, implicitDefEqProofs := false}) (disch := omega) only [↓reduceIte, go_sem, Int.reduceToNat, Nat.reduceAdd, Nat.reduceLeDiff, Nat.reduceEqDiff, Nat.reduceSub, Nat.reduceMul, reduceCtorEq, hg]
    refine ifE (fun e => ?_) (fun e => ?_)
    · simp (config := {maxSteps := 2000000, implicitDefEqProofs := false}) (disch := omega) only [↓reduceIte, go_sem, Int.reduceToNat, Nat.reduceAdd, Nat.reduceLeDiff, Nat.reduceEqDiff, Nat.reduceSub, Nat.reduceMul, reduceCtorEq]
      exact ⟨by rw [idxI_of hs e.symm h2], rfl⟩
    · simp (config := {maxSteps := 2000000, implicitDefEqProofs := false}) (disch := omega) only [↓reduceIte, go_sem, Int.reduceToNat, Nat.reduceAdd, Nat.reduceLeDiff, Nat.reduceEqDiff, Nat.reduceSub, Nat.reduceMul, reduceCtorEq]
      refine ⟨s + 1, by simp, ⟨by omega, fun j hj => ?_⟩, by omega⟩
      by_cases hjs : j = s
      · subst hjs; exact fun h => e h.symm
      · exact h2 j (by omega)
  · simp (config := {maxSteps := 2000000, implicitDefEqProofs := false}) (disch := omega) only [↓reduceIte, go_sem, Int.reduceToNat, Nat.reduceAdd, Nat.reduceLeDiff, Nat.reduceEqDiff, Nat.reduceSub, Nat.reduceMul, reduceCtorEq]
    exact ⟨by rw [idxI_none fun j hj => h2 j (by omega)], rfl⟩
theorem C34 (u : List Nat) (x : Int) (hl : u.length < 1000000) : Ctr Try.prog 34 [.sl (u.map encK), .int .i64 x] [] (ret [.bool (decide (∃ k ∈ u, (k : Int) = x))]) := by
  apply ctr_b A34_ok rfl (Nat.le_of_ble_eq_true rfl)
  unfold A34
  simp only [initL, Nat.reduceAdd]
  simp (config := {maxSteps := 2000000, implicitDefEqProofs := false}) (disch := omega) only [↓reduceIte, go_sem, Int.reduceToNat, Nat.reduceAdd, Nat.reduceLeDiff, Nat.reduceEqDiff, Nat.reduceSub, Nat.reduceMul, reduceCtorEq]
  refine callL (C53 u x hl) ?_
  simp (config := {maxSteps := 2000000, implicitDefEqProofs := false}) (disch := omega) only [↓reduceIte, go_sem, Int.reduceToNat, Nat.reduceAdd, Nat.reduceLeDiff, Nat.reduceEqDiff, Nat.reduceSub, Nat.reduceMul, reduceCtorEq]
  have := idxI_ge u x
  simp (config := {maxSteps := 2000000, implicitDefEqProofs := false}) (disch := omega) only [↓reduceIte, go_sem, Int.reduceToNat, Nat.reduceAdd, Nat.reduceLeDiff, Nat.reduceEqDiff, Nat.reduceSub, Nat.reduceMul, reduceCtorEq, this]
  exact ⟨rfl, rfl⟩
theorem C59 (u : List Nat) (hl : u.length < 1000000) : Ctr Try.prog 59 [.sl (u.map encK)] [] (ret [.sl (u.map encK)]) := by
  apply ctr_b A59_ok rfl (Nat.le_of_ble_eq_true rfl)
  unfold A59
  simp only [initL, Nat.reduceAdd]
  have hall : (∀ c ∈ u.map encK, c.length = 1) = True := by simp [encK]
  have hlen : (u.map encK).length = u.length := by simp
  cases u with
  | nil =>
    simp (config := {maxSteps := 2000000, implicitDefEqProofs := false}) (disch := omega) only [↓reduceIte, go_sem, Int.reduceToNat, Nat.reduceAdd, Nat.reduceLeDiff, Nat.reduceEqDiff, Nat.reduceSub, Nat.reduceMul, reduceCtorEq]
    exact ⟨rfl, rfl⟩
  | cons k r =>
    simp only [List.map_cons] at hall
    simp only [List.length_cons] at hl
    simp (config := {maxSteps := 2000000, implicitDefEqProofs := false}) (disch := omega) only [↓reduceIte, go_sem, Int.reduceToNat, Nat.reduceAdd, Nat.reduceLeDiff, Nat.reduceEqDiff, Nat.reduceSub, Nat.reduceMul, reduceCtorEq, hall]
    exact ⟨rfl, rfl⟩
theorem C50 (n : Int) : Ctr Try.prog 50 [.int .i64 n] [] (ret [.bool (decide (20 ≤ n ∧ n ≤ 23))]) := by
  apply ctr_b A50_ok rfl (Nat.le_of_ble_eq_true rfl)
  unfold A50
  simp only [initL, Nat.reduceAdd]
  simp (config := {maxSteps := 2000000, implicitDefEqProofs := false}) (disch := omega) only [↓reduceIte, go_sem, Int.reduceToNat, Nat.reduceAdd, Nat.reduceLeDiff, Nat.reduceEqDiff, Nat.reduceSub, Nat.reduceMul, reduceCtorEq]
  refine ifD (fun h => ?_) (fun h => ?_)
  · simp (config := {maxSteps := 2000000, implicitDefEqProofs := false}) (disch := omega) only [↓reduceIte, go_sem, Int.reduceToNat, Nat.reduceAdd, Nat.reduceLeDiff, Nat.reduceEqDiff, Nat.reduceSub, Nat.reduceMul, reduceCtorEq]
    refine ⟨?_, rfl⟩
    congr 1
    simp
    omega
  · simp (config := {maxSteps := 2000000, implicitDefEqProofs := false}) (disch := omega) only [↓reduceIte, go_sem, Int.reduceToNat, Nat.reduceAdd, Nat.reduceLeDiff, Nat.reduceEqDiff, Nat.reduceSub, Nat.reduceMul, reduceCtorEq]
    refine ⟨?_, rfl⟩
    congr 1
    simp
    omega
/-- What a block ends with, and whether it may. -/
def insZ : Ins := ⟨0, ⟨0, 0, 0, 0⟩, [], .empty, 0, [], []⟩
def lastP (b : Blk) : Ins × Bool := match b.code.getLast? with | some i => (i, decide (20 ≤ i.op ∧ i.op ≤ 23)) | none => (insZ, false)
theorem C32 (b : Blk) (hl : b.code.length ≤ 9223372036854775807) : Ctr Try.prog 32 [.agg (encBk b)] [] (ret [.agg (encIn (lastP b).1), .bool (lastP b).2]) := by
  apply ctr_b A32_ok rfl (Nat.le_of_ble_eq_true rfl)
  unfold A32
  simp only [initL, Nat.reduceAdd, encBk]
  simp (config := {maxSteps := 2000000, implicitDefEqProofs := false}) (disch := omega) only [↓reduceIte, go_sem, Int.reduceToNat, Nat.reduceAdd, Nat.reduceLeDiff, Nat.reduceEqDiff, Nat.reduceSub, Nat.reduceMul, reduceCtorEq]
  refine ifE (fun e => ?_) (fun e => ?_)
  · have h0 : b.code = [] := List.eq_nil_of_length_eq_zero (by omega)
    simp (config := {maxSteps := 2000000, implicitDefEqProofs := false}) (disch := omega) only [↓reduceIte, go_sem, Int.reduceToNat, Nat.reduceAdd, Nat.reduceLeDiff, Nat.reduceEqDiff, Nat.reduceSub, Nat.reduceMul, reduceCtorEq]
    refine ⟨?_, rfl⟩
    simp [lastP, h0, insZ, encIn]
  · have h0 : b.code ≠ [] := fun h => e (by rw [h]; rfl)
    have hp : 0 < b.code.length := List.length_pos_iff.2 h0
    obtain ⟨i, hi⟩ : ∃ i, b.code[b.code.length - 1]? = some i := ⟨_, List.getElem?_eq_getElem (by omega)⟩
    have hgl : b.code.getLast? = some i := by rw [List.getLast?_eq_getElem?, hi]
    have hw : IntKind.i64.wrap ((b.code.length : Int) - 1) = ((b.code.length - 1 : Nat) : Int) := by rw [wrap64 (by omega) (by omega)]; omega
    simp (config := {maxSteps := 2000000, implicitDefEqProofs := false}) (disch := omega) only [↓reduceIte, go_sem, Int.reduceToNat, Nat.reduceAdd, Nat.reduceLeDiff, Nat.reduceEqDiff, Nat.reduceSub, Nat.reduceMul, reduceCtorEq, hw, hi, encIn]
    refine callL (C50 i.op) ?_
    simp (config := {maxSteps := 2000000, implicitDefEqProofs := false}) (disch := omega) only [↓reduceIte, go_sem, Int.reduceToNat, Nat.reduceAdd, Nat.reduceLeDiff, Nat.reduceEqDiff, Nat.reduceSub, Nat.reduceMul, reduceCtorEq]
    refine accL (by kernel_rfl) ?_
    simp (config := {maxSteps := 2000000, implicitDefEqProofs := false}) (disch := omega) only [↓reduceIte, go_sem, Int.reduceToNat, Nat.reduceAdd, Nat.reduceLeDiff, Nat.reduceEqDiff, Nat.reduceSub, Nat.reduceMul, reduceCtorEq]
    refine ⟨?_, rfl⟩
    simp [lastP, hgl, encIn]
end Go.Proofs.Yticjemfgbfphdaa.X
/- Rows that are arrays of one's own: lookups, and what they are when they are written no more. -/
namespace Go.AM
open Go
set_option linter.unusedVariables false
set_option linter.unusedSimpArgs false
def hsR (base i : Nat) (r : List Nat) : AV := .hs (base + 2 * i) r.length 0 r.length
def obR (r : List Nat) : Ob := .arr r.length 1 (r.map encK)
def cellsR (base : Nat) : Nat → List (List Nat) → List AV
  | _, [] => []
  | i, r :: rs => hsR base i r :: cellsR base (i + 1) rs
def objsR (base : Nat) : Nat → List (List Nat) → List (Nat × Ob)
  | _, [] => []
  | i, r :: rs => (base + 2 * i, obR r) :: objsR base (i + 1) rs
theorem cellsR_len {base : Nat} : ∀ {rs : List (List Nat)} {i : Nat}, (cellsR base i rs).length = rs.length
  | [], i => rfl
  | r :: rs, i => by simp [cellsR, cellsR_len (rs := rs)]
theorem cellsR_get {base : Nat} : ∀ {rs : List (List Nat)} {i j : Nat}, (cellsR base i rs)[j]? = (rs[j]?).map (hsR base (i + j))
  | [], i, j => by simp [cellsR]
  | r :: rs, i, 0 => by simp [cellsR]
  | r :: rs, i, j + 1 => by
    simp only [cellsR, List.getElem?_cons_succ]
    rw [cellsR_get (rs := rs), show i + 1 + j = i + (j + 1) by omega]
theorem drop_get {α : Type} {l : List α} {j : Nat} {x : α} (h : l[j]? = some x) : l.drop j = x :: l.drop (j + 1) := by
  obtain ⟨hj, rfl⟩ := List.getElem?_eq_some_iff.1 h
  exact (List.getElem_cons_drop hj).symm
theorem cellsR_drop {base : Nat} {rs : List (List Nat)} {j : Nat} {r : List Nat} (h : rs[j]? = some r) : (cellsR base 0 rs).drop j = hsR base j r :: (cellsR base 0 rs).drop (j + 1) :=
  drop_get (by rw [cellsR_get, h]; simp)
theorem cellsR_set {base : Nat} : ∀ {rs : List (List Nat)} {i j : Nat} {r : List Nat}, j < rs.length → setAt (cellsR base i rs) j [hsR base (i + j) r] = cellsR base i (rs.set j r)
  | [], i, j, r, h => by simp at h
  | x :: rs, i, 0, r, h => by simp [cellsR, setAt]
  | x :: rs, i, j + 1, r, h => by
    have := cellsR_set (base := base) (rs := rs) (i := i + 1) (j := j) (r := r) (by simpa using h)
    simp only [setAt, cellsR, List.set_cons_succ, List.take_succ_cons, List.cons_append, List.length_cons, List.length_nil, List.drop_succ_cons] at this ⊢
    rw [show i + (j + 1) = i + 1 + j by omega]
    rw [← this]
theorem optA_objsR {base : Nat} : ∀ {rs : List (List Nat)} {i k : Nat}, optA (objsR base i rs) k = if base + 2 * i ≤ k ∧ (k - base) % 2 = 0 then (rs[(k - base) / 2 - i]?).map obR else none
  | [], i, k => by simp [objsR, optA]
  | r :: rs, i, k => by
    simp only [objsR, optA]
    cases hb : Nat.beq (base + 2 * i) k with
    | true =>
      have := Nat.eq_of_beq_eq_true hb
      subst this
      simp only [cond_true]
      rw [if_pos (by omega), show (base + 2 * i - base) / 2 - i = 0 by omega]
      rfl
    | false =>
      have hne : base + 2 * i ≠ k := fun e => by rw [e, Nat.beq_refl] at hb; cases hb
      simp only [cond_false]
      rw [optA_objsR (rs := rs)]
      by_cases h : base + 2 * i ≤ k ∧ (k - base) % 2 = 0
      · rw [if_pos h, if_pos (by omega), show (k - base) / 2 - i = ((k - base) / 2 - (i + 1)) + 1 by omega]
        rfl
      · rw [if_neg h, if_neg (by omega)]
theorem optA_app {α : Type} : ∀ {a b : List (Nat × α)} {k : Nat}, optA (a ++ b) k = (optA a k).or (optA b k)
  | [], b, k => rfl
  | (j, x) :: a, b, k => by
    simp only [List.cons_append, optA]
    cases Nat.beq j k
    · exact optA_app
    · rfl
theorem optA_del {α : Type} : ∀ {r : List (Nat × α)} {i j : Nat}, optA (delA r i) j = if j = i then none else optA r j
  | r, i, j => by
    by_cases h : j = i
    · subst h
      rw [if_pos rfl]
      induction r with
      | nil => rfl
      | cons p r ih =>
        obtain ⟨k, v⟩ := p
        simp only [delA]
        cases hb : Nat.beq k j with
        | true => simpa only [cond_true] using ih
        | false => simpa only [cond_false, optA, hb] using ih
    · rw [if_neg h]; exact optA_delA r i j h
/-- The two boxes' rows. -/
def tailR (S P : List (List Nat)) : List (Nat × Ob) := objsR 1000 0 S ++ objsR 1001 0 P
theorem tail_S {S P : List (List Nat)} {j : Nat} {r : List Nat} (h : S[j]? = some r) : optA (tailR S P) (1000 + 2 * j) = some (obR r) := by
  unfold tailR
  rw [optA_app, optA_objsR, if_pos (by omega), show (1000 + 2 * j - 1000) / 2 - 0 = j by omega, h]
  rfl
theorem tail_P {S P : List (List Nat)} {j : Nat} {r : List Nat} (h : P[j]? = some r) : optA (tailR S P) (1001 + 2 * j) = some (obR r) := by
  unfold tailR
  rw [optA_app, optA_objsR, if_neg (by omega), optA_objsR, if_pos (by omega), show (1001 + 2 * j - 1001) / 2 - 0 = j by omega, h]
  rfl
theorem tail_low {S P : List (List Nat)} {k : Nat} (h : k < 1000) : optA (tailR S P) k = none := by
  unfold tailR
  rw [optA_app, optA_objsR, if_neg (by omega), optA_objsR, if_neg (by omega)]
  rfl
theorem del_objsR {base k : Nat} (h : k < base) : ∀ {rs : List (List Nat)} {i : Nat}, delA (objsR base i rs) k = objsR base i rs
  | [], i => rfl
  | r :: rs, i => by
    simp only [objsR, delA]
    rw [beq_ne (by omega), del_objsR h]
    rfl
theorem del_app {α : Type} : ∀ {a b : List (Nat × α)} {k : Nat}, delA (a ++ b) k = delA a k ++ delA b k
  | [], b, k => rfl
  | (j, x) :: a, b, k => by
    simp only [List.cons_append, delA]
    cases Nat.beq j k
    · simp only [cond_false, List.cons_append, del_app (a := a)]
    · simp only [cond_true, del_app (a := a)]
theorem tail_del {S P : List (List Nat)} {k : Nat} (h : k < 1000) : delA (tailR S P) k = tailR S P := by
  unfold tailR
  rw [del_app, del_objsR h, del_objsR (by omega)]
theorem fz_objsR {base k : Nat} {ob : Ob} : ∀ {rs : List (List Nat)} {i : Nat}, (∀ j, i ≤ j → base + 2 * j ≠ k) → fzO k ob (objsR base i rs) = objsR base i rs
  | [], i, h => rfl
  | r :: rs, i, h => by
    simp only [objsR, fzO]
    rw [beq_ne (h i (Nat.le_refl _)), fz_objsR fun j hj => h j (by omega)]
    rfl
theorem fz_app {k : Nat} {ob : Ob} : ∀ {a b : List (Nat × Ob)}, fzO k ob (a ++ b) = fzO k ob a ++ fzO k ob b
  | [], b => rfl
  | (j, x) :: a, b => by
    simp only [List.cons_append, fzO]
    cases Nat.beq j k
    · simp only [cond_false, List.cons_append, fz_app (a := a)]
    · simp only [cond_true, fz_app (a := a)]
theorem tail_fz {S P : List (List Nat)} {k : Nat} {ob : Ob} (h : k < 1000) : fzO k ob (tailR S P) = tailR S P := by
  unfold tailR
  rw [fz_app, fz_objsR (fun j _ => by omega), fz_objsR (fun j _ => by omega)]
theorem fz_cellsR {base k : Nat} {ob : Ob} : ∀ {rs : List (List Nat)} {i : Nat}, (∀ j, i ≤ j → base + 2 * j ≠ k) → fzL k ob (cellsR base i rs) = cellsR base i rs
  | [], i, h => rfl
  | r :: rs, i, h => by
    simp only [cellsR, fzL, hsR, fz]
    rw [beq_ne (h i (Nat.le_refl _)), fz_cellsR fun j hj => h j (by omega)]
    rfl
theorem cells_fz {base k : Nat} {ob : Ob} {rs : List (List Nat)} (h : k < base) : fzL k ob (cellsR base 0 rs) = cellsR base 0 rs := fz_cellsR fun j _ => by omega
/-- Rows that are written no more. -/
def slR (r : List Nat) : AV := .sl (r.map encK)
theorem fz_slR {k : Nat} {ob : Ob} : ∀ {rs : List (List Nat)} {l : List AV}, fzL k ob (rs.map slR ++ l) = rs.map slR ++ fzL k ob l
  | [], l => rfl
  | r :: rs, l => by
    simp only [List.map_cons, List.cons_append, fzL, slR, fz]
    rw [← fz_slR (rs := rs)]
theorem slR_pure : ∀ {rs : List (List Nat)}, isPL (rs.map slR) = true
  | [] => rfl
  | r :: rs => by simp only [List.map_cons, isPL, slR, isP, Bool.true_and]; exact slR_pure
/-- The graph while it is made: what is done of the rows is frozen already. -/
def stG (n : Nat) (dS S dP P : List (List Nat)) : St :=
  ⟨[(2, .ref 20 0)], (20, .box [.bs 14 0 n, .bs 18 0 n]) :: (14, .box (dS.map slR ++ cellsR 1000 dS.length S)) :: (18, .box (dP.map slR ++ cellsR 1001 dP.length P)) :: (objsR 1000 dS.length S ++ objsR 1001 dP.length P)⟩
theorem frz_S {n : Nat} {dP P : List (List Nat)} : ∀ {S dS : List (List Nat)}, Stp [] (stG n dS S dP P) (stG n (dS ++ S) [] dP P)
  | [], dS => by rw [List.append_nil]; exact .refl
  | r :: S, dS => by
    have h1 : (stG n dS (r :: S) dP P).ob (1000 + 2 * dS.length) = some (obR r) := by
      simp only [stG, St.ob, optA, objsR, List.cons_append]
      rw [beq_ne (by omega), beq_ne (by omega), beq_ne (by omega), Nat.beq_refl]
      rfl
    have h2 := Stp.frz (ks := []) (1000 + 2 * dS.length) (.refl (a := stG n dS (r :: S) dP P)) h1 rfl (by simp)
    have h3 : (stG n dS (r :: S) dP P).frz (1000 + 2 * dS.length) (obR r) = stG n (dS ++ [r]) S dP P := by
      simp only [stG, St.frz, fzR, fzO, fz, objsR, cellsR, List.cons_append, fzOb, fzL, fz_slR, hsR]
      rw [beq_ne (i := 20) (by omega), beq_ne (i := 14) (by omega), beq_ne (i := 18) (by omega), Nat.beq_refl]
      simp only [cond_true, cond_false, fz_app, obR, if_true, List.drop_zero]
      rw [fz_cellsR (fun j hj => by omega), fz_cellsR (fun j hj => by omega), fz_objsR (fun j hj => by omega), fz_objsR (fun j hj => by omega)]
      have h4 : (r.map encK).take r.length = r.map encK := List.take_of_length_le (by simp)
      rw [h4]
      simp [slR]
    rw [h3] at h2
    have := h2.trans (frz_S (S := S) (dS := dS ++ [r]))
    rwa [List.append_assoc] at this
theorem frz_P {n : Nat} {dS : List (List Nat)} : ∀ {P dP : List (List Nat)}, Stp [] (stG n dS [] dP P) (stG n dS [] (dP ++ P) [])
  | [], dP => by rw [List.append_nil]; exact .refl
  | r :: P, dP => by
    have h1 : (stG n dS [] dP (r :: P)).ob (1001 + 2 * dP.length) = some (obR r) := by
      simp only [stG, St.ob, optA, objsR, List.nil_append]
      rw [beq_ne (by omega), beq_ne (by omega), beq_ne (by omega), Nat.beq_refl]
      rfl
    have h2 := Stp.frz (ks := []) (1001 + 2 * dP.length) (.refl (a := stG n dS [] dP (r :: P))) h1 rfl (by simp)
    have h3 : (stG n dS [] dP (r :: P)).frz (1001 + 2 * dP.length) (obR r) = stG n dS [] (dP ++ [r]) P := by
      simp only [stG, St.frz, fzR, fzO, fz, objsR, cellsR, List.nil_append, List.append_nil, fzOb, fzL, fz_slR, hsR]
      rw [beq_ne (i := 20) (by omega), beq_ne (i := 14) (by omega), beq_ne (i := 18) (by omega), Nat.beq_refl]
      simp only [cond_true, cond_false, obR, if_true, List.drop_zero]
      rw [fz_cellsR (fun j hj => by omega), fz_objsR (fun j hj => by omega)]
      have h4 : (r.map encK).take r.length = r.map encK := List.take_of_length_le (by simp)
      have h5 : fzL (1001 + 2 * dP.length) (.arr r.length 1 (r.map encK)) (dS.map slR) = dS.map slR := by
        have := fz_slR (k := 1001 + 2 * dP.length) (ob := .arr r.length 1 (r.map encK)) (rs := dS) (l := [])
        simpa only [List.append_nil, fzL] using this
      rw [h4, h5]
      simp [slR]
    rw [h3] at h2
    have := h2.trans (frz_P (P := P) (dP := dP ++ [r]))
    rwa [List.append_assoc] at this
/-- A graph that no one writes. -/
def grP (S P : List (List Nat)) : AV := .rp [.sl (encRows S), .sl (encRows P)]
theorem frz_G {n : Nat} {S P : List (List Nat)} (hS : S.length = n) (hP : P.length = n) : Stp [] (stG n [] S [] P) ⟨[(2, grP S P)], []⟩ := by
  have h1 := (frz_S (n := n) (dP := []) (P := P) (S := S) (dS := [])).trans (frz_P (n := n) (dS := [] ++ S) (P := P) (dP := []))
  simp only [List.nil_append] at h1
  refine h1.trans ?_
  have e0 : stG n S [] P [] = ⟨[(2, .ref 20 0)], [(20, .box [.bs 14 0 n, .bs 18 0 n]), (14, .box (S.map slR)), (18, .box (P.map slR))]⟩ := by
    simp [stG, cellsR, objsR]
  have hz : ∀ {k : Nat} {ob : Ob} {rs : List (List Nat)}, fzL k ob (rs.map slR) = rs.map slR := by
    intro k ob rs
    have := fz_slR (k := k) (ob := ob) (rs := rs) (l := [])
    simpa only [List.append_nil, fzL] using this
  have hb : ∀ {rs : List (List Nat)}, rs.length = n → fzB (rs.map slR) 0 n = .sl (encRows rs) := by
    intro rs h
    unfold fzB
    rw [show Nat.ble (0 + n) (rs.map slR).length = true from Nat.ble_eq_true_of_le (by simp; omega)]
    simp only [cond_true, List.drop_zero]
    rw [List.take_of_length_le (by simp; omega), List.map_map]
    rfl
  rw [e0]
  have s1 := Stp.frz (ks := []) 14 (.refl (a := (⟨[(2, .ref 20 0)], [(20, .box [.bs 14 0 n, .bs 18 0 n]), (14, .box (S.map slR)), (18, .box (P.map slR))]⟩ : St))) (ob := .box (S.map slR)) rfl slR_pure (by simp)
  have e1 : (⟨[(2, .ref 20 0)], [(20, .box [.bs 14 0 n, .bs 18 0 n]), (14, .box (S.map slR)), (18, .box (P.map slR))]⟩ : St).frz 14 (.box (S.map slR)) = ⟨[(2, .ref 20 0)], [(20, .box [.sl (encRows S), .bs 18 0 n]), (18, .box (P.map slR))]⟩ := by
    simp [St.frz, fzR, fzO, fz, fzOb, fzL, hz, hb hS, show Nat.beq 20 14 = false from rfl, show Nat.beq 18 14 = false from rfl]
  rw [e1] at s1
  have s2 := Stp.frz (ks := []) 18 s1 (ob := .box (P.map slR)) rfl slR_pure (by simp)
  have e2 : (⟨[(2, .ref 20 0)], [(20, .box [.sl (encRows S), .bs 18 0 n]), (18, .box (P.map slR))]⟩ : St).frz 18 (.box (P.map slR)) = ⟨[(2, .ref 20 0)], [(20, .box [.sl (encRows S), .sl (encRows P)])]⟩ := by
    simp [St.frz, fzR, fzO, fz, fzOb, fzL, hb hP, show Nat.beq 20 18 = false from rfl]
  rw [e2] at s2
  have s3 := Stp.frz (ks := []) 20 s2 (ob := .box [.sl (encRows S), .sl (encRows P)]) rfl rfl (by simp)
  have e3 : (⟨[(2, .ref 20 0)], [(20, .box [.sl (encRows S), .sl (encRows P)])]⟩ : St).frz 20 (.box [.sl (encRows S), .sl (encRows P)]) = ⟨[(2, grP S P)], []⟩ := by
    simp [St.frz, fzR, fzO, fz, grP]
  rw [e3] at s3
  exact s3
def putsO : List (Nat × Ob) → List (Nat × Ob) → List (Nat × Ob)
  | os, [] => os
  | os, (k, o) :: u => putsO ((k, o) :: delA os k) u
theorem puts_eq {r : List (Nat × AV)} : ∀ {u os : List (Nat × Ob)}, St.puts ⟨r, os⟩ u = ⟨r, putsO os u⟩
  | [], os => rfl
  | (k, o) :: u, os => by simp only [St.puts, St.put, putsO]; exact puts_eq
theorem putsO_app {k : Nat} {o : Ob} : ∀ {u os : List (Nat × Ob)}, putsO os (u ++ [(k, o)]) = (k, o) :: delA (putsO os u) k
  | [], os => rfl
  | (j, x) :: u, os => by simp only [List.cons_append, putsO]; exact putsO_app
theorem puts_mk {r : List (Nat × AV)} {os : List (Nat × Ob)} {b k n : Nat} {o : Ob} : St.puts ⟨r, os⟩ (mkbO (some (b, 2, 1)) n ++ [(k, o)]) = ⟨r, (k, o) :: delA (putsO os (rowOs b 2 1 0 n)) k⟩ := by
  rw [puts_eq, putsO_app]; rfl
theorem rowOs_eq {base : Nat} : ∀ {n i : Nat}, rowOs base 2 1 i n = objsR base i (List.replicate n [])
  | 0, i => rfl
  | n + 1, i => by simp only [rowOs, List.replicate_succ, objsR, rowOs_eq (n := n)]; rfl
theorem rowCs_eq {base : Nat} : ∀ {n i : Nat}, rowCs base 2 i n = cellsR base i (List.replicate n [])
  | 0, i => rfl
  | n + 1, i => by simp only [rowCs, List.replicate_succ, cellsR, rowCs_eq (n := n)]; rfl
theorem optA_putsO {base k : Nat} : ∀ {rs : List (List Nat)} {i : Nat} {os : List (Nat × Ob)}, optA (putsO os (objsR base i rs)) k = (optA (objsR base i rs) k).or (optA os k)
  | [], i, os => rfl
  | r :: rs, i, os => by
    simp only [objsR, putsO]
    rw [optA_putsO (rs := rs)]
    simp only [optA]
    cases hb : Nat.beq (base + 2 * i) k with
    | true =>
      have := Nat.eq_of_beq_eq_true hb
      subst this
      rw [optA_objsR, if_neg (by omega)]
      rfl
    | false =>
      have hne : k ≠ base + 2 * i := fun e => by rw [e, Nat.beq_refl] at hb; cases hb
      simp only [cond_false]
      rw [optA_delA _ _ _ hne]
theorem meets_no {a b : List Nat} (h : ∀ x ∈ a, ∀ y ∈ b, x ≠ y) : meets a b = false := by
  unfold meets
  rw [List.any_eq_false]
  intro x hx
  rw [Bool.not_eq_true, List.any_eq_false]
  intro y hy
  rw [Bool.not_eq_true]
  exact beq_ne (h x hx y hy)
theorem rowKs_form {base : Nat} : ∀ {n i : Nat}, ∀ x ∈ rowKs base 2 i n, ∃ j, x = base + 2 * j
  | 0, i, x, h => by cases h
  | n + 1, i, x, h => by
    simp only [rowKs, List.mem_cons] at h
    rcases h with rfl | h
    · exact ⟨i, rfl⟩
    · exact rowKs_form x h
theorem acc_two {n : Nat} : accClash (([], 14 :: mkbK (some (1000, 2, 1)) n) : Acc) (([], 18 :: mkbK (some (1001, 2, 1)) n) : Acc) = false := by
  unfold accClash
  rw [meets_no, meets_no]
  · rfl
  · intro x hx; cases hx
  · intro x hx y hy
    simp only [List.nil_append] at hy
    rcases List.mem_cons.1 hx with rfl | hx <;> rcases List.mem_cons.1 hy with rfl | hy
    · omega
    · obtain ⟨j, rfl⟩ := rowKs_form y hy; omega
    · obtain ⟨j, rfl⟩ := rowKs_form x hx; omega
    · obtain ⟨j, rfl⟩ := rowKs_form y hy
      obtain ⟨i, rfl⟩ := rowKs_form x hx
      omega
theorem acc_n0 {a : Acc} : accClash n0 a = false := by
  unfold accClash n0
  rw [meets_no (fun x hx => by cases hx), meets_no (fun x hx => by cases hx)]; rfl
theorem acc_0n {a : Acc} : accClash a n0 = false := by
  unfold accClash n0
  rw [meets_no (fun x _ y hy => by cases hy), meets_no (fun x _ y hy => by cases hy)]; rfl
theorem optA_ne {α : Type} {j k : Nat} {x : α} {r : List (Nat × α)} (h : k ≠ j) : optA ((j, x) :: r) k = optA r k := by
  simp only [optA]
  rw [beq_ne (Ne.symm h)]
  rfl
theorem optA_hit {α : Type} {k : Nat} {x : α} {r : List (Nat × α)} : optA ((k, x) :: r) k = some x := by
  simp only [optA, Nat.beq_refl, cond_true]
theorem start_ob {n k : Nat} {A : Ob} : optA ((20, A) :: (14, .box (cellsR 1000 0 (List.replicate n []))) :: (18, .box (cellsR 1001 0 (List.replicate n []))) :: tailR (List.replicate n []) (List.replicate n [])) k =
    optA ((20, A) :: (18, .box (mkbC (some (1001, 2, 1)) .dead n)) :: delA (delA (putsO ((14, .box (mkbC (some (1000, 2, 1)) .dead n)) :: delA (putsO [] (rowOs 1000 2 1 0 n)) 14) (rowOs 1001 2 1 0 n)) 18) 20) k := by
  simp only [mkbC, rowCs_eq, rowOs_eq, tailR]
  by_cases h20 : k = 20
  · subst h20; rw [optA_hit, optA_hit]
  · rw [optA_ne h20, optA_ne h20]
    by_cases h18 : k = 18
    · subst h18; rw [optA_ne (by omega), optA_hit, optA_hit]
    · rw [optA_ne h18, optA_del, if_neg h20, optA_del, if_neg h18, optA_putsO]
      by_cases h14 : k = 14
      · subst h14
        rw [optA_hit, optA_hit, optA_objsR, if_neg (by omega)]
        rfl
      · rw [optA_ne h14, optA_ne h18, optA_ne h14, optA_del, if_neg h14, optA_app, optA_putsO]
        generalize h1 : optA (objsR 1000 0 (List.replicate n [])) k = a
        generalize h2 : optA (objsR 1001 0 (List.replicate n [])) k = b
        rw [optA_objsR] at h1 h2
        by_cases hp : 1000 + 2 * 0 ≤ k ∧ (k - 1000) % 2 = 0
        · rw [if_neg (by omega)] at h2
          subst h2
          simp [optA]
        · rw [if_neg hp] at h1
          subst h1
          simp [optA]
theorem objs_set_ne {base k s : Nat} {rs : List (List Nat)} {x : List Nat} (h : k ≠ base + 2 * s) : optA (objsR base 0 (rs.set s x)) k = optA (objsR base 0 rs) k := by
  rw [optA_objsR, optA_objsR]
  by_cases hp : base + 2 * 0 ≤ k ∧ (k - base) % 2 = 0
  · rw [if_pos hp, if_pos hp, List.getElem?_set_ne (by omega)]
  · rw [if_neg hp, if_neg hp]
theorem upd_ob {n s t k K K2 : Nat} {S P : List (List Nat)} {cur pr cur' pr' : List Nat} {A : Ob} {X Y : List AV} (hK : 1000 + 2 * s = K) (hK2 : 1001 + 2 * t = K2) (hS : S[s]? = some cur) (hP : P[t]? = some pr)
    (hX : X = cellsR 1001 0 (P.set t pr')) (hY : Y = cellsR 1000 0 (S.set s cur')) :
    optA ((20, A) :: (14, .box (cellsR 1000 0 (S.set s cur'))) :: (18, .box (cellsR 1001 0 (P.set t pr'))) :: tailR (S.set s cur') (P.set t pr')) k =
    optA ((18, .box X) :: (K2, obR pr') :: (14, .box Y) :: (K, obR cur') :: (20, A) :: delA (delA (delA (delA (tailR S P) K) 14) K2) 18) k := by
  subst hK hK2 hX hY
  have hs : s < S.length := (List.getElem?_eq_some_iff.1 hS).1
  have ht : t < P.length := (List.getElem?_eq_some_iff.1 hP).1
  by_cases h20 : k = 20
  · subst h20; rw [optA_hit, optA_ne (by omega), optA_ne (by omega), optA_ne (by omega), optA_ne (by omega), optA_hit]
  · rw [optA_ne h20]
    by_cases h14 : k = 14
    · subst h14; rw [optA_hit, optA_ne (by omega), optA_ne (by omega), optA_hit]
    · rw [optA_ne h14]
      by_cases h18 : k = 18
      · subst h18; rw [optA_hit, optA_hit]
      · rw [optA_ne h18, optA_ne h18]
        by_cases h1 : k = 1001 + 2 * t
        · subst h1
          rw [optA_hit, tail_P (r := pr')]
          rw [List.getElem?_set_self ht]
        · rw [optA_ne h1, optA_ne h14]
          by_cases h2 : k = 1000 + 2 * s
          · subst h2
            rw [optA_hit, tail_S (r := cur')]
            rw [List.getElem?_set_self hs]
          · rw [optA_ne h2, optA_ne h20, optA_del, if_neg h18, optA_del, if_neg h1, optA_del, if_neg h14, optA_del, if_neg h2]
            unfold tailR
            rw [optA_app, optA_app, objs_set_ne h2, objs_set_ne h1]
/-- Registers that are left out. -/
theorem reg_sub {b : St} {l : List (Nat × AV)} {os : List (Nat × Ob)} (h : ∀ p ∈ l, b.reg p.1 = p.2) : ∀ i, (⟨l, os⟩ : St).reg i = b.reg i ∨ (⟨l, os⟩ : St).reg i = .dead := by
  intro i
  show getA .dead l i = b.reg i ∨ getA .dead l i = .dead
  induction l with
  | nil => exact .inr rfl
  | cons p l ih =>
    obtain ⟨j, x⟩ := p
    simp only [getA]
    cases hb : Nat.beq j i with
    | true =>
      have := Nat.eq_of_beq_eq_true hb
      subst this
      simp only [cond_true]
      exact .inl (h (j, x) List.mem_cons_self).symm
    | false => exact ih fun q hq => h q (List.mem_cons_of_mem _ hq)
end Go.AM
/- graph.New. -/
namespace Go.Proofs.Yticjemfgbfphdaa.X
open Go Go.AM Go.Proofs
attribute [local go_sem ↓] w_skip w_lbl w_ops w_draw w_pre w_post w_alt w_seq w_cond w_block w_join w_loop w_exit w_ret w_scope w_rfunc l_nil l_cons th_n th_e th_r bk_n bk_r bk_e t_nil t_it t_call i_nil i_one i_grp s_nil s_cons c_call e_mv e_nil e_dyn e_nilb e_frz o_mov o_bin o_eq o_un o_conv o_len o_slen o_idx o_aix o_fad o_load o_store o_boxp o_boxo o_boxm o_alloc o_allocm o_alloca o_nilarr o_build o_bslp o_bslo o_slc o_sslc o_slc3 o_sidx o_mkfn o_mkmv o_vidx o_ext o_pick o_callf o_callb o_appd o_clear o_mxn o_field o_nilc o_make o_makeb o_buildm o_boxg o_mkif o_tass o_eqs o_callo o_callx k_int k_str k_bool k_grb k_grt k_some k_none k_arr k_lens k_lenf k_lenh k_lenb k_idxb k_idxs k_idxf k_idxh k_ld k_loadp k_loadr k_loade k_storer k_storee k_oin k_ois k_slcs k_slcf k_slch k_slc3s k_slc3f k_slc3h k_app2 k_apps k_appf k_apph k_cals k_cald k_cali k_cnb k_cna k_esn k_esc k_efn k_efc k_esh b_add b_sub b_mul b_quo b_rem b_and b_or b_xor b_andNot b_eql b_neq b_lss b_leq b_gtr b_geq b_shl b_shr b_seq b_sne b_slt b_sad q_bool q_str q_nil q_nilf u_not u_neg u_xor f_ret f_nor v_r v_c v_g v_reg v_ob v_set v_put v_so v_sn v_pn v_pc g_nil d_nil p_nil m_mv m_fr z_nil z_cons z_an z_ac g_cons d_cons p_cons y_mov y_bin y_eq y_un y_conv y_len y_slen y_idx y_aix y_fad y_load y_store y_boxp y_boxo y_boxm y_alloc y_alloca y_allocm y_nilarr y_build y_bslp y_bslo y_slc y_sslc y_slc3 y_sidx y_mkfn y_ext y_pick y_callf y_callb y_appd y_clear y_mxn y_field y_nilc y_make y_makeb y_buildm y_boxg y_mkif y_tass y_eqs y_callo y_mkmv y_callx y_vidx nb_if
attribute [local go_sem] nbd VL_mk VL2_mk If_t If_f If_not If_and If_or If_dt If_df If_et If_ef If_ne Ck_t Ck_h Opt_s ld_a ld_c lm_a lm_c renL ren keepR renA idxM invL getObs mapOb renOb allNone putAll fzR fzO fz fzL fzOb fzB frzOk upFrom mapR resOne resA cellsOf oneA oneAL isP isPL okSt kRows kParts fillA setAt bor bor0 bor1 bor2 borC borI key0 key1 key2 keysA fillM cellsM cellM unif ptrA ifOk kPartsM getObsM allNoneM zipU scal0 scalar eqC evNil evNilF memK keyX hideM xbor scal1 scalX scalOb bndA mkMag showM lendV hideV hideR hideOb hideL hideO showL backO noneO mapA List.map_cons List.map_nil List.cons_append List.nil_append List.append_nil List.drop_zero List.drop_succ_cons List.drop_nil List.take_succ_cons List.take_zero List.take_nil List.length_cons List.length_nil List.length_map List.getElem?_map Option.map_some Option.map_none Int.toNat_natCast Int.toNat_zero Int.toNat_one Int.natCast_nonneg List.flatMap_cons List.flatMap_nil List.all_cons List.all_nil List.any_cons List.any_nil Bool.or_false Bool.false_or Bool.or_true Bool.true_or Bool.and_true Bool.true_and Bool.and_false Bool.false_and Bool.not_true Bool.not_false beq_self_eq_true nb_self all_nil List.forall_mem_cons tk_map tk_app bs_self bs_dec bq_t bq_f Bool.not_not decide_true decide_false Bool.not_not and_self and_true true_and eq_self List.reverse_cons List.reverse_nil List.getElem?_cons_zero List.getElem?_cons_succ cond_true cond_false List.set_cons_zero List.set_cons_succ Nat.zero_add Nat.add_zero if_true if_false ite_true ite_false implies_true wrap64 wrap8
set_option linter.unusedVariables false
set_option linter.unusedSimpArgs false
set_option maxRecDepth 10000
def rowsF (n : Nat) (g : Nat → List Nat) : List (List Nat) := (List.range n).map g
theorem rowsF_len {n : Nat} {g : Nat → List Nat} : (rowsF n g).length = n := by simp [rowsF]
theorem rowsF_get {n i : Nat} {g : Nat → List Nat} (h : i < n) : (rowsF n g)[i]? = some (g i) := by simp [rowsF, h]
theorem rowsF_congr {n : Nat} {g g' : Nat → List Nat} (h : ∀ i, i < n → g i = g' i) : rowsF n g = rowsF n g' := List.map_congr_left fun i hi => h i (List.mem_range.1 hi)
theorem rowsF_set {n i : Nat} {g : Nat → List Nat} {x : List Nat} : (rowsF n g).set i x = rowsF n (fun j => if j = i then x else g j) := by
  apply List.ext_getElem?
  intro k
  rw [List.getElem?_set]
  by_cases hk : k < n
  · rw [rowsF_get hk, rowsF_get hk]
    by_cases h : k = i
    · subst h
      simp [rowsF_len, hk]
    · rw [if_neg (Ne.symm h), if_neg h]
  · have e1 : (rowsF n g)[k]? = none := List.getElem?_eq_none (by rw [rowsF_len]; omega)
    have e2 : (rowsF n (fun j => if j = i then x else g j))[k]? = none := List.getElem?_eq_none (by rw [rowsF_len]; omega)
    rw [e1, e2]
    split
    · rw [if_neg (by rw [rowsF_len]; omega)]
    · rfl
def sG (bs : List Blk) (s : Nat) (cur : List Nat) (i : Nat) : List Nat := if i < s then (succF bs).getD i [] else if i = s then cur else []
def pG (bs : List Blk) (s : Nat) (cur : List Nat) (t : Nat) : List Nat := ((List.range s).filter fun i => decide (t ∈ (succF bs).getD i [])) ++ (if t ∈ cur then [s] else [])
theorem sG_zero {bs : List Blk} {i : Nat} : sG bs 0 [] i = [] := by unfold sG; simp
theorem pG_zero {bs : List Blk} {i : Nat} : pG bs 0 [] i = [] := by unfold pG; simp
theorem sG_next {bs : List Blk} {s i : Nat} : sG bs s ((succF bs).getD s []) i = sG bs (s + 1) [] i := by
  unfold sG
  by_cases h : i < s
  · rw [if_pos h, if_pos (by omega)]
  · rw [if_neg h]
    by_cases h2 : i = s
    · subst h2
      rw [if_pos rfl, if_pos (by omega)]
    · rw [if_neg h2, if_neg (by omega)]
      split <;> rfl
theorem pG_next {bs : List Blk} {s t : Nat} : pG bs s ((succF bs).getD s []) t = pG bs (s + 1) [] t := by
  unfold pG
  rw [List.range_succ, List.filter_append]
  simp only [List.filter_cons, List.filter_nil, List.not_mem_nil, if_false, List.append_nil]
  by_cases h : t ∈ (succF bs).getD s []
  · simp [h]
  · simp [h]
theorem sG_set {bs : List Blk} {s x j : Nat} {cur : List Nat} : (if j = s then cur ++ [x] else sG bs s cur j) = sG bs s (cur ++ [x]) j := by
  unfold sG
  by_cases h : j = s
  · subst h; simp
  · rw [if_neg h, if_neg h, if_neg h]
theorem pG_set {bs : List Blk} {s x j : Nat} {cur : List Nat} (hx : x ∉ cur) : (if j = x then pG bs s cur x ++ [s] else pG bs s cur j) = pG bs s (cur ++ [x]) j := by
  unfold pG
  by_cases h : j = x
  · subst h
    simp [hx]
  · rw [if_neg h]
    simp [h]
theorem rows_done (bs : List Blk) : rowsF bs.length (sG bs bs.length []) = succF bs := by
  apply List.ext_getElem?
  intro k
  by_cases hk : k < bs.length
  · rw [rowsF_get hk]
    unfold sG
    rw [if_pos hk]
    simp [succF, hk]
  · have e1 : (rowsF bs.length (sG bs bs.length []))[k]? = none := List.getElem?_eq_none (by rw [rowsF_len]; omega)
    have e2 : (succF bs)[k]? = none := List.getElem?_eq_none (by simp [succF]; omega)
    rw [e1, e2]
theorem preds_done (bs : List Blk) : rowsF bs.length (pG bs bs.length []) = predF (succF bs) := by
  unfold predF
  have : (succF bs).length = bs.length := by simp [succF]
  rw [this]
  refine rowsF_congr fun i hi => ?_
  unfold pG predR
  rw [this]
  simp
def outG (f : Fnc) (n s : Nat) (S P : List (List Nat)) : St := ⟨[(1, .rp (encFn f)), (3, .ref 20 0), (22, .sl (f.blocks.map encBk)), (23, .int .i64 (n : Int)), (24, .int .i64 (s : Int))],
  (20, .box [.bs 14 0 n, .bs 18 0 n]) :: (14, .box (cellsR 1000 0 S)) :: (18, .box (cellsR 1001 0 P)) :: tailR S P⟩
def inG (f : Fnc) (n s : Nat) (lb : List ByteArray) (j : Nat) (S P : List (List Nat)) : St := ⟨[(1, .rp (encFn f)), (3, .ref 20 0), (4, .int .i64 (s : Int)), (22, .sl (f.blocks.map encBk)), (23, .int .i64 (n : Int)), (24, .int .i64 (s : Int)), (37, .sl (lb.map encSt)), (38, .int .i64 (lb.length : Int)), (39, .int .i64 (j : Int))],
  (20, .box [.bs 14 0 n, .bs 18 0 n]) :: (14, .box (cellsR 1000 0 S)) :: (18, .box (cellsR 1001 0 P)) :: tailR S P⟩
theorem rowsF_nil {n : Nat} {g : Nat → List Nat} (h : ∀ i, g i = []) : rowsF n g = List.replicate n [] := by
  apply List.ext_getElem?
  intro k
  by_cases hk : k < n
  · rw [rowsF_get hk, h]; simp [hk]
  · have e1 : (rowsF n g)[k]? = none := List.getElem?_eq_none (by rw [rowsF_len]; omega)
    rw [e1]
    simp [hk]
theorem lastP_labels {b : Blk} (e : (lastP b).2 = true) : labelsOf b = (lastP b).1.labels := by
  unfold lastP at e ⊢
  unfold labelsOf lastOp
  cases hx : b.code.getLast? with
  | none => rw [hx] at e; cases e
  | some i => rw [hx] at e; simp at e; simp; rw [if_pos e]
theorem lastP_len {b : Blk} (h : b.code.length ≤ 9223372036854775807 ∧ ∀ i ∈ b.code, i.labels.length ≤ 9223372036854775807) (e : (lastP b).2 = true) : (lastP b).1.labels.length ≤ 9223372036854775807 := by
  unfold lastP at e ⊢
  cases hx : b.code.getLast? with
  | none => rw [hx] at e; cases e
  | some i => exact h.2 i (List.mem_of_getLast? hx)
theorem pG_len {bs : List Blk} {s x n : Nat} {cur : List Nat} (hs : s ≤ n) (h : s < n) : (pG bs s cur x).length ≤ n := by
  unfold pG
  rw [List.length_append]
  have h1 := List.length_filter_le (fun i => decide (x ∈ (succF bs).getD i [])) (List.range s)
  rw [List.length_range] at h1
  split <;> simp only [List.length_cons, List.length_nil] <;> omega
theorem C10 (f : Fnc) (hl : f.blocks.length < 1000000) (hc : ∀ b ∈ f.blocks, b.code.length ≤ 9223372036854775807 ∧ ∀ i ∈ b.code, i.labels.length ≤ 9223372036854775807) : Ctr Try.prog 10 [.agg (encFn f)] [] (ret [grP (succF f.blocks) (predF (succF f.blocks))]) := by
  apply ctr_b A10_ok rfl (Nat.le_of_ble_eq_true rfl)
  unfold A10
  simp only [initL, Nat.reduceAdd]
  simp (config := {maxSteps := 2000000, implicitDefEqProofs := false}) (disch := omega) only [↓reduceIte, go_sem, Int.reduceToNat, Nat.reduceAdd, Nat.reduceLeDiff, Nat.reduceEqDiff, Nat.reduceSub, Nat.reduceMul, reduceCtorEq, encFn]
  refine ckL ⟨Nat.le_of_ble_eq_true rfl, fun i hi => ⟨rfl, by omega⟩⟩ ?_
  have hN : optA (delA (putsO [] (rowOs 1000 2 1 0 f.blocks.length)) 14) 18 = none := by
    rw [optA_del, if_neg (by omega), rowOs_eq, optA_putsO, optA_objsR, if_neg (by omega)]
    rfl
  simp (config := {maxSteps := 2000000, implicitDefEqProofs := false}) (disch := omega) only [↓reduceIte, go_sem, Int.reduceToNat, Nat.reduceAdd, Nat.reduceLeDiff, Nat.reduceEqDiff, Nat.reduceSub, Nat.reduceMul, reduceCtorEq, puts_mk, hN]
  refine ckL ⟨Nat.le_of_ble_eq_true rfl, fun i hi => ⟨?_, by omega⟩⟩ ?_
  · show optA ((14, _) :: delA (putsO [] (rowOs 1000 2 1 0 f.blocks.length)) 14) (1001 + 2 * i) = none
    rw [optA, beq_ne (by omega), cond_false, optA_del, if_neg (by omega), rowOs_eq, optA_putsO, optA_objsR, if_neg (by omega)]
    rfl
  simp (config := {maxSteps := 2000000, implicitDefEqProofs := false}) (disch := omega) only [↓reduceIte, go_sem, Int.reduceToNat, Nat.reduceAdd, Nat.reduceLeDiff, Nat.reduceEqDiff, Nat.reduceSub, Nat.reduceMul, reduceCtorEq, puts_mk]
  have hN2 : optA (delA (putsO ((14, Ob.box (mkbC (some (1000, 2, 1)) AV.dead f.blocks.length)) :: delA (putsO [] (rowOs 1000 2 1 0 f.blocks.length)) 14) (rowOs 1001 2 1 0 f.blocks.length)) 18) 20 = none := by
    simp only [rowOs_eq]
    rw [optA_del, if_neg (by omega), optA_putsO, optA_objsR, if_neg (by omega), optA, beq_ne (by omega), cond_false, optA_del, if_neg (by omega), optA_putsO, optA_objsR, if_neg (by omega)]
    rfl
  simp (config := {maxSteps := 2000000, implicitDefEqProofs := false}) (disch := omega) only [↓reduceIte, go_sem, Int.reduceToNat, Nat.reduceAdd, Nat.reduceLeDiff, Nat.reduceEqDiff, Nat.reduceSub, Nat.reduceMul, reduceCtorEq, hN2]
  refine accL (by simp [accsOk, pairsOk, acc_two, acc_n0, acc_0n]) ?_
  simp (config := {maxSteps := 2000000, implicitDefEqProofs := false}) (disch := omega) only [↓reduceIte, go_sem, Int.reduceToNat, Nat.reduceAdd, Nat.reduceLeDiff, Nat.reduceEqDiff, Nat.reduceSub, Nat.reduceMul, reduceCtorEq, encFn, puts_mk]
  have h0S : rowsF f.blocks.length (sG f.blocks 0 []) = List.replicate f.blocks.length [] := rowsF_nil fun i => sG_zero
  have h0P : rowsF f.blocks.length (pG f.blocks 0 []) = List.replicate f.blocks.length [] := rowsF_nil fun i => pG_zero
  refine loopD (σ := Nat) (fun s => outG f f.blocks.length s (rowsF f.blocks.length (sG f.blocks s [])) (rowsF f.blocks.length (pG f.blocks s []))) (fun s => s ≤ f.blocks.length) (fun s => f.blocks.length - s) 0 ?_ (Nat.zero_le _) ?_
  · refine .drop .refl (reg_sub ?_) fun k => ?_
    · intro p hp
      simp only [List.mem_cons, List.not_mem_nil, or_false] at hp
      rcases hp with rfl | rfl | rfl | rfl | rfl <;> (simp (config := {maxSteps := 2000000, implicitDefEqProofs := false}) (disch := omega) only [↓reduceIte, go_sem, Int.reduceToNat, Nat.reduceAdd, Nat.reduceLeDiff, Nat.reduceEqDiff, Nat.reduceSub, Nat.reduceMul, reduceCtorEq, encFn]; try rfl)
    · rw [h0S, h0P]
      exact start_ob
  · intro s hs
    have hSl : (rowsF f.blocks.length (sG f.blocks s [])).length = f.blocks.length := rowsF_len
    simp (config := {maxSteps := 2000000, implicitDefEqProofs := false}) (disch := omega) only [↓reduceIte, go_sem, Int.reduceToNat, Nat.reduceAdd, Nat.reduceLeDiff, Nat.reduceEqDiff, Nat.reduceSub, Nat.reduceMul, reduceCtorEq, outG]
    refine ifD (fun c => ?_) (fun c => ?_)
    · obtain ⟨b, hb⟩ : ∃ b, f.blocks[s]? = some b := ⟨_, List.getElem?_eq_getElem (by omega)⟩
      have hbm := List.mem_of_getElem? hb
      simp (config := {maxSteps := 2000000, implicitDefEqProofs := false}) (disch := omega) only [↓reduceIte, go_sem, Int.reduceToNat, Nat.reduceAdd, Nat.reduceLeDiff, Nat.reduceEqDiff, Nat.reduceSub, Nat.reduceMul, reduceCtorEq, outG, hb, encBk, tail_low, tail_del, tail_fz, cells_fz]
      refine callL (C32 b (hc b hbm).1) ?_
      simp (config := {maxSteps := 2000000, implicitDefEqProofs := false}) (disch := omega) only [↓reduceIte, go_sem, Int.reduceToNat, Nat.reduceAdd, Nat.reduceLeDiff, Nat.reduceEqDiff, Nat.reduceSub, Nat.reduceMul, reduceCtorEq, encIn, tail_low, tail_del, tail_fz, cells_fz]
      have hsg : (succF f.blocks).getD s [] = succB f.blocks b := by simp [succF, hb]
      have hend : ∀ cur, cur = (succF f.blocks).getD s [] → rowsF f.blocks.length (sG f.blocks s cur) = rowsF f.blocks.length (sG f.blocks (s + 1) []) ∧ rowsF f.blocks.length (pG f.blocks s cur) = rowsF f.blocks.length (pG f.blocks (s + 1) []) := fun cur e => by
        subst e
        exact ⟨rowsF_congr fun i _ => sG_next, rowsF_congr fun i _ => pG_next⟩
      refine ifL (fun e => ?_) (fun e => ?_)
      · simp (config := {maxSteps := 2000000, implicitDefEqProofs := false}) (disch := omega) only [↓reduceIte, go_sem, Int.reduceToNat, Nat.reduceAdd, Nat.reduceLeDiff, Nat.reduceEqDiff, Nat.reduceSub, Nat.reduceMul, reduceCtorEq, encIn, tail_low, tail_del, tail_fz, cells_fz]
        have hlb := lastP_labels e
        have hlm : (lastP b).1.labels.length ≤ 9223372036854775807 := lastP_len (hc b hbm) e
        generalize (lastP b).1.labels = lb at hlb hlm ⊢
        refine loopD (σ := Nat) (fun j => inG f f.blocks.length s lb j (rowsF f.blocks.length (sG f.blocks s ((lb.take j).foldl (stepL f.blocks) []))) (rowsF f.blocks.length (pG f.blocks s ((lb.take j).foldl (stepL f.blocks) [])))) (fun j => j ≤ lb.length) (fun j => lb.length - j) 0 ?_ (Nat.zero_le _) ?_
        · refine .drop .refl (reg_sub ?_) fun k => rfl
          intro p hp
          simp only [List.mem_cons, List.not_mem_nil, or_false] at hp
          rcases hp with rfl | rfl | rfl | rfl | rfl | rfl | rfl | rfl | rfl <;> (simp (config := {maxSteps := 2000000, implicitDefEqProofs := false}) (disch := omega) only [↓reduceIte, go_sem, Int.reduceToNat, Nat.reduceAdd, Nat.reduceLeDiff, Nat.reduceEqDiff, Nat.reduceSub, Nat.reduceMul, reduceCtorEq, encFn]; try rfl)
        · intro j hj
          simp (config := {maxSteps := 2000000, implicitDefEqProofs := false}) (disch := omega) only [↓reduceIte, go_sem, Int.reduceToNat, Nat.reduceAdd, Nat.reduceLeDiff, Nat.reduceEqDiff, Nat.reduceSub, Nat.reduceMul, reduceCtorEq, inG]
          refine ifD (fun c2 => ?_) (fun c2 => ?_)
          · obtain ⟨l, hl2⟩ : ∃ l, lb[j]? = some l := ⟨_, List.getElem?_eq_getElem (by omega)⟩
            have hcur : ∀ x ∈ (lb.take j).foldl (stepL f.blocks) [], x < f.blocks.length := foldl_inv (P := fun l => ∀ x ∈ l, x < f.blocks.length) (fun _ _ h => stepL_lt h) _ _ (fun x hx => by cases hx)
            have hnd : ((lb.take j).foldl (stepL f.blocks) []).Nodup := foldl_inv (P := List.Nodup) (fun _ _ h => stepL_nodup h) _ _ List.nodup_nil
            have hclen := nodup_le hnd hcur
            have hstep : (lb.take (j + 1)).foldl (stepL f.blocks) [] = stepL f.blocks ((lb.take j).foldl (stepL f.blocks) []) l := by
              rw [snoc_take hl2, List.foldl_append]; rfl
            generalize (lb.take j).foldl (stepL f.blocks) [] = cur at hcur hnd hclen hstep ⊢
            have hS : (rowsF f.blocks.length (sG f.blocks s cur))[s]? = some cur := by
              rw [rowsF_get (by omega)]
              simp [sG]
            have hSs : ∀ x, (rowsF f.blocks.length (sG f.blocks s cur)).set s (cur ++ [x]) = rowsF f.blocks.length (sG f.blocks s (cur ++ [x])) := fun x => by
              rw [rowsF_set]
              exact rowsF_congr fun i _ => sG_set
            have hPs : ∀ x, x ∉ cur → (rowsF f.blocks.length (pG f.blocks s cur)).set x (pG f.blocks s cur x ++ [s]) = rowsF f.blocks.length (pG f.blocks s (cur ++ [x])) := fun x hx => by
              rw [rowsF_set]
              exact rowsF_congr fun i _ => pG_set hx
            have hPg : ∀ x, x < f.blocks.length → (rowsF f.blocks.length (pG f.blocks s cur))[x]? = some (pG f.blocks s cur x) := fun x hx => rowsF_get hx
            have hPl : ∀ x, (pG f.blocks s cur x).length ≤ f.blocks.length := fun x => pG_len hs (by omega)
            have hSlen : (rowsF f.blocks.length (sG f.blocks s cur)).length = f.blocks.length := rowsF_len
            have hPlen : (rowsF f.blocks.length (pG f.blocks s cur)).length = f.blocks.length := rowsF_len
            generalize hSe : rowsF f.blocks.length (sG f.blocks s cur) = S at hS hSs hSlen ⊢
            generalize hPe : rowsF f.blocks.length (pG f.blocks s cur) = P at hPs hPg hPlen ⊢
            simp (config := {maxSteps := 2000000, implicitDefEqProofs := false}) (disch := omega) only [↓reduceIte, go_sem, Int.reduceToNat, Nat.reduceAdd, Nat.reduceLeDiff, Nat.reduceEqDiff, Nat.reduceSub, Nat.reduceMul, reduceCtorEq, inG, hl2, encSt, encFn]
            refine callL (C33 f l hl) ?_
            simp (config := {maxSteps := 2000000, implicitDefEqProofs := false}) (disch := omega) only [↓reduceIte, go_sem, Int.reduceToNat, Nat.reduceAdd, Nat.reduceLeDiff, Nat.reduceEqDiff, Nat.reduceSub, Nat.reduceMul, reduceCtorEq, inG, hl2, encSt, encFn]
            cases hf : findN f.blocks l with
            | none =>
              have hfi : findI f.blocks l = -1 := by rw [findI, hf]; rfl
              have hst : stepL f.blocks cur l = cur := by rw [stepL, hf]
              simp (config := {maxSteps := 2000000, implicitDefEqProofs := false}) (disch := omega) only [↓reduceIte, go_sem, Int.reduceToNat, Nat.reduceAdd, Nat.reduceLeDiff, Nat.reduceEqDiff, Nat.reduceSub, Nat.reduceMul, reduceCtorEq, inG, encFn, encSt, hl2, hfi, show decide ((-1 : Int) ≥ 0) = false from rfl]
              refine ⟨j + 1, .drop .refl (reg_sub ?_) fun k => by rw [hstep, hst, ← hSe, ← hPe]; rfl, by omega, by omega⟩
              intro p hp
              simp only [List.mem_cons, List.not_mem_nil, or_false] at hp
              rcases hp with rfl | rfl | rfl | rfl | rfl | rfl | rfl | rfl | rfl <;> (simp (config := {maxSteps := 2000000, implicitDefEqProofs := false}) (disch := omega) only [↓reduceIte, go_sem, Int.reduceToNat, Nat.reduceAdd, Nat.reduceLeDiff, Nat.reduceEqDiff, Nat.reduceSub, Nat.reduceMul, reduceCtorEq, encFn]; try rfl)
            | some t =>
              have hfi : findI f.blocks l = (t : Int) := by rw [findI, hf]; rfl
              have htn := findN_some hf
              have hd1 := cellsR_drop (base := 1000) hS
              simp only [hsR] at hd1
              have hK1 := tail_S (P := P) hS
              simp only [obR] at hK1
              generalize hKe : 1000 + 2 * s = K at hd1 hK1
              have k1 : (20 = K) = False := by simp; omega
              have k2 : (14 = K) = False := by simp; omega
              have k3 : (18 = K) = False := by simp; omega
              have k4 : (K = 20) = False := by simp; omega
              have k5 : (K = 14) = False := by simp; omega
              have k6 : (K = 18) = False := by simp; omega
              simp (config := {maxSteps := 2000000, implicitDefEqProofs := false}) (disch := omega) only [↓reduceIte, go_sem, Int.reduceToNat, Nat.reduceAdd, Nat.reduceLeDiff, Nat.reduceEqDiff, Nat.reduceSub, Nat.reduceMul, reduceCtorEq, inG, encFn, encSt, hl2, hfi, show decide ((t : Int) ≥ 0) = true from decide_eq_true (Int.natCast_nonneg t), hd1, hK1, k1, k2, k3]
              refine callL (C34 cur t (by omega)) ?_
              have hmem : (∃ k ∈ cur, (k : Int) = (t : Int)) ↔ t ∈ cur := ⟨fun ⟨k, hk, e⟩ => by rwa [show t = k by omega], fun h => ⟨t, h, rfl⟩⟩
              by_cases hin : t ∈ cur
              · have hq : decide (∃ k ∈ cur, (k : Int) = (t : Int)) = true := decide_eq_true (hmem.2 hin)
                have hst : stepL f.blocks cur l = cur := by rw [stepL, hf]; simp [hin]
                simp (config := {maxSteps := 2000000, implicitDefEqProofs := false}) (disch := omega) only [↓reduceIte, go_sem, Int.reduceToNat, Nat.reduceAdd, Nat.reduceLeDiff, Nat.reduceEqDiff, Nat.reduceSub, Nat.reduceMul, reduceCtorEq, inG, encFn, encSt, hl2, hfi, show decide ((t : Int) ≥ 0) = true from decide_eq_true (Int.natCast_nonneg t), hd1, hK1, k1, k2, k3, hq]
                refine ⟨j + 1, .drop .refl (reg_sub ?_) fun k => by rw [hstep, hst, ← hSe, ← hPe]; rfl, by omega, by omega⟩
                intro p hp
                simp only [List.mem_cons, List.not_mem_nil, or_false] at hp
                rcases hp with rfl | rfl | rfl | rfl | rfl | rfl | rfl | rfl | rfl <;> (simp (config := {maxSteps := 2000000, implicitDefEqProofs := false}) (disch := omega) only [↓reduceIte, go_sem, Int.reduceToNat, Nat.reduceAdd, Nat.reduceLeDiff, Nat.reduceEqDiff, Nat.reduceSub, Nat.reduceMul, reduceCtorEq, encFn]; try rfl)
              · have hq : decide (∃ k ∈ cur, (k : Int) = (t : Int)) = false := decide_eq_false (fun h => hin (hmem.1 h))
                have hst : stepL f.blocks cur l = cur ++ [t] := by rw [stepL, hf]; simp [hin]
                have hc1 : ((cur.length + 1 : Nat) : Int) * ((8 : Nat) : Int) ≤ 70368744177664 := by omega
                have hcl : (cellsR 1000 0 S).length = f.blocks.length := by rw [cellsR_len, hSlen]
                simp (config := {maxSteps := 2000000, implicitDefEqProofs := false}) (disch := omega) only [↓reduceIte, go_sem, Int.reduceToNat, Nat.reduceAdd, Nat.reduceLeDiff, Nat.reduceEqDiff, Nat.reduceSub, Nat.reduceMul, reduceCtorEq, inG, encFn, encSt, hl2, hfi, show decide ((t : Int) ≥ 0) = true from decide_eq_true (Int.natCast_nonneg t), hd1, hK1, k1, k2, k3, k4, k5, k6, hq, hc1, hcl]
                refine accL (by simp [accsOk, pairsOk, acc_n0, acc_0n, accClash, meets, nbd, k1, k2, k3, k4, k5, k6]) ?_
                have hPt := hPg t htn
                have hPtl := hPl t
                have hPt2 := hPs t hin
                generalize pG f.blocks s cur t = pr at hPt hPtl hPt2
                have hd2 := cellsR_drop (base := 1001) hPt
                simp only [hsR] at hd2
                have hK2 := tail_P (S := S) hPt
                simp only [obR] at hK2
                generalize hKe2 : 1001 + 2 * t = K2 at hd2 hK2
                have m1 : (20 = K2) = False := by simp; omega
                have m2 : (14 = K2) = False := by simp; omega
                have m3 : (18 = K2) = False := by simp; omega
                have m4 : (K2 = 20) = False := by simp; omega
                have m5 : (K2 = 14) = False := by simp; omega
                have m6 : (K2 = 18) = False := by simp; omega
                have m7 : (K = K2) = False := by simp; omega
                have m8 : (K2 = K) = False := by simp; omega
                have hc2 : ((pr.length + 1 : Nat) : Int) * ((8 : Nat) : Int) ≤ 70368744177664 := by omega
                have hcl2 : (cellsR 1001 0 P).length = f.blocks.length := by rw [cellsR_len, hPlen]
                simp (config := {maxSteps := 2000000, implicitDefEqProofs := false}) (disch := omega) only [↓reduceIte, go_sem, Int.reduceToNat, Nat.reduceAdd, Nat.reduceLeDiff, Nat.reduceEqDiff, Nat.reduceSub, Nat.reduceMul, reduceCtorEq, inG, encFn, encSt, hl2, hfi, hd1, hK1, k1, k2, k3, k4, k5, k6, hc1, hcl, hd2, hK2, m1, m2, m3, m4, m5, m6, m7, m8, hc2, hcl2, optA_del]
                refine accL (by simp [accsOk, pairsOk, acc_n0, acc_0n, accClash, meets, nbd, m1, m2, m3, m4, m5, m6]) ?_
                simp (config := {maxSteps := 2000000, implicitDefEqProofs := false}) (disch := omega) only [↓reduceIte, go_sem, Int.reduceToNat, Nat.reduceAdd, Nat.reduceLeDiff, Nat.reduceEqDiff, Nat.reduceSub, Nat.reduceMul, reduceCtorEq, inG, encFn, encSt, hl2, hfi, hd1, hK1, k1, k2, k3, k4, k5, k6, hc1, hcl, hd2, hK2, m1, m2, m3, m4, m5, m6, m7, m8, hc2, hcl2, optA_del]
                refine ⟨j + 1, .drop .refl (reg_sub ?_) fun k => ?_, by omega, by omega⟩
                · intro p hp
                  simp only [List.mem_cons, List.not_mem_nil, or_false] at hp
                  rcases hp with rfl | rfl | rfl | rfl | rfl | rfl | rfl | rfl | rfl <;> (simp (config := {maxSteps := 2000000, implicitDefEqProofs := false}) (disch := omega) only [↓reduceIte, go_sem, Int.reduceToNat, Nat.reduceAdd, Nat.reduceLeDiff, Nat.reduceEqDiff, Nat.reduceSub, Nat.reduceMul, reduceCtorEq, encFn]; try rfl)
                · rw [hstep, hst, ← hSs, ← hPt2]
                  have q1 := cellsR_set (base := 1000) (rs := S) (i := 0) (j := s) (r := cur ++ [t]) (by omega)
                  have q2 := cellsR_set (base := 1001) (rs := P) (i := 0) (j := t) (r := pr ++ [s]) (by omega)
                  have u := upd_ob (n := f.blocks.length) (k := k) (A := .box [.bs 14 0 f.blocks.length, .bs 18 0 f.blocks.length]) hKe hKe2 hS hPt (cur' := cur ++ [t]) (pr' := pr ++ [s]) q2 q1
                  simp only [obR, hsR, setAt, Nat.zero_add, hKe, hKe2, List.length_append, List.length_cons, List.length_nil, List.map_append, List.map_cons, List.map_nil, encK] at u
                  exact u
          · simp (config := {maxSteps := 2000000, implicitDefEqProofs := false}) (disch := omega) only [↓reduceIte, go_sem, Int.reduceToNat, Nat.reduceAdd, Nat.reduceLeDiff, Nat.reduceEqDiff, Nat.reduceSub, Nat.reduceMul, reduceCtorEq, inG]
            have hje : j = lb.length := by omega
            subst hje
            obtain ⟨g1, g2⟩ := hend ((lb.take lb.length).foldl (stepL f.blocks) []) (by rw [hsg, List.take_length, succB, hlb])
            refine ⟨s + 1, .drop .refl (reg_sub ?_) fun k => ?_, by omega, by omega⟩
            · intro p hp
              simp only [List.mem_cons, List.not_mem_nil, or_false] at hp
              rcases hp with rfl | rfl | rfl | rfl | rfl <;> (simp (config := {maxSteps := 2000000, implicitDefEqProofs := false}) (disch := omega) only [↓reduceIte, go_sem, Int.reduceToNat, Nat.reduceAdd, Nat.reduceLeDiff, Nat.reduceEqDiff, Nat.reduceSub, Nat.reduceMul, reduceCtorEq, encFn]; try rfl)
            · rw [← g1, ← g2]
              rfl
      · simp (config := {maxSteps := 2000000, implicitDefEqProofs := false}) (disch := omega) only [↓reduceIte, go_sem, Int.reduceToNat, Nat.reduceAdd, Nat.reduceLeDiff, Nat.reduceEqDiff, Nat.reduceSub, Nat.reduceMul, reduceCtorEq, encIn, tail_low, tail_del, tail_fz, cells_fz]
        have h0 : [] = (succF f.blocks).getD s [] := by
          rw [hsg]
          unfold succB labelsOf lastOp
          unfold lastP at e
          cases hx : b.code.getLast? with
          | none => rfl
          | some i => rw [hx] at e; simp at e; simp; rw [if_neg (by omega)]; rfl
        obtain ⟨g1, g2⟩ := hend [] h0
        refine ⟨s + 1, .drop .refl (reg_sub ?_) fun k => ?_, by omega, by omega⟩
        · intro p hp
          simp only [List.mem_cons, List.not_mem_nil, or_false] at hp
          rcases hp with rfl | rfl | rfl | rfl | rfl <;> (simp (config := {maxSteps := 2000000, implicitDefEqProofs := false}) (disch := omega) only [↓reduceIte, go_sem, Int.reduceToNat, Nat.reduceAdd, Nat.reduceLeDiff, Nat.reduceEqDiff, Nat.reduceSub, Nat.reduceMul, reduceCtorEq, encFn]; try rfl)
        · rw [← g1, ← g2]
          rfl
    · simp (config := {maxSteps := 2000000, implicitDefEqProofs := false}) (disch := omega) only [↓reduceIte, go_sem, Int.reduceToNat, Nat.reduceAdd, Nat.reduceLeDiff, Nat.reduceEqDiff, Nat.reduceSub, Nat.reduceMul, reduceCtorEq, outG]
      have hse : s = f.blocks.length := by omega
      subst hse
      refine dynL (st' := ⟨[(2, grP (succF f.blocks) (predF (succF f.blocks)))], []⟩) ?_ ?_
      · rw [rows_done, preds_done]
        refine Stp.trans (b := stG f.blocks.length [] (succF f.blocks) [] (predF (succF f.blocks))) ?_ (frz_G (by simp [succF]) (by simp [predF, succF]))
        refine .drop .refl (reg_sub ?_) fun k => ?_
        · intro p hp
          simp only [List.mem_cons, List.not_mem_nil, or_false] at hp
          subst hp
          simp (config := {maxSteps := 2000000, implicitDefEqProofs := false}) (disch := omega) only [↓reduceIte, go_sem, Int.reduceToNat, Nat.reduceAdd, Nat.reduceLeDiff, Nat.reduceEqDiff, Nat.reduceSub, Nat.reduceMul, reduceCtorEq]
        · rfl
      · simp (config := {maxSteps := 2000000, implicitDefEqProofs := false}) (disch := omega) only [↓reduceIte, go_sem, Int.reduceToNat, Nat.reduceAdd, Nat.reduceLeDiff, Nat.reduceEqDiff, Nat.reduceSub, Nat.reduceMul, reduceCtorEq]
        exact ⟨rfl, rfl⟩
end Go.Proofs.Yticjemfgbfphdaa.X
