/- Objects that are written no more. -/
import Derived.Test.YtmmgdilhbkklpaaAMV
namespace Go.AM
open Go
set_option linter.unusedVariables false
set_option linter.unusedSimpArgs false
mutual
/-- The same value, where object k is written no more. -/
def fz (k : Nat) (ob : Ob) : AV → AV
  | .hs k' v o l => bif Nat.beq k' k then (match ob with | .arr ver _ xs => if v = ver then .sl ((xs.drop o).take l) else .dead | _ => .dead) else .hs k' v o l
  | .er k' v i o => bif Nat.beq k' k then (match ob with | .arr ver _ xs => if v = ver then (match xs[i]? with | some c => .rp (c.drop o) | none => .dead) else .dead | _ => .dead) else .er k' v i o
  | .ref k' o => bif Nat.beq k' k then (match ob with | .pbox cs => .rp (cs.drop o) | .box cs => .rp (cs.drop o) | _ => .dead) else .ref k' o
  | .fn f caps => .fn f (fzL k ob caps)
  | .tup xs => .tup (fzL k ob xs)
  | .int k n => .int k n
  | .bool b => .bool b
  | .str s => .str s
  | .nilp => .nilp
  | .nilf => .nilf
  | .nili => .nili
  | .sl xs => .sl xs
  | .fl xs => .fl xs
  | .rp cs => .rp cs
  | .ifc t x => .ifc t x
  | .agg cs => .agg cs
  | .mag cs => .mag (fzL k ob cs)
  | .mif t x => (match fz k ob x with | .rp c => .ifc t (.rp c) | y => .mif t y)
  | .anyb => .anyb
  | .yl l => .yl l
  | .dead => .dead
def fzL (k : Nat) (ob : Ob) : List AV → List AV
  | [] => []
  | x :: xs => fz k ob x :: fzL k ob xs
end
def fzOb (k : Nat) (ob : Ob) : Ob → Ob
  | .box cs => .box (fzL k ob cs)
  | .pbox cs => .pbox cs
  | .arr v e xs => .arr v e xs
def fzR (k : Nat) (ob : Ob) : List (Nat × AV) → List (Nat × AV)
  | [] => []
  | (i, x) :: r => (i, fz k ob x) :: fzR k ob r
def fzO (k : Nat) (ob : Ob) : List (Nat × Ob) → List (Nat × Ob)
  | [] => []
  | (i, x) :: r => bif Nat.beq i k then fzO k ob r else (i, fzOb k ob x) :: fzO k ob r
def frzOk : Ob → Bool
  | .box cs => isPL cs
  | _ => true
def St.frz (st : St) (k : Nat) (ob : Ob) : St := ⟨fzR k ob st.regs, fzO k ob st.objs⟩
theorem fzR_reg {k : Nat} {ob : Ob} : ∀ {r : List (Nat × AV)} {i : Nat}, getA .dead (fzR k ob r) i = fz k ob (getA .dead r i)
  | [], i => by simp [getA, fzR, fz]
  | (j, x) :: r, i => by
    simp only [fzR, getA]
    cases Nat.beq j i
    · exact fzR_reg
    · rfl
theorem fzO_ob {k : Nat} {ob : Ob} : ∀ {r : List (Nat × Ob)} {i : Nat}, optA (fzO k ob r) i = if i = k then none else (optA r i).map (fzOb k ob)
  | [], i => by simp [optA, fzO]
  | (j, x) :: r, i => by
    simp only [fzO, optA]
    cases hb : Nat.beq j k with
    | true =>
      have hjk := Nat.eq_of_beq_eq_true hb
      simp only [cond_true]
      rw [fzO_ob]
      by_cases h : i = k
      · rw [if_pos h, if_pos h]
      · rw [if_neg h, if_neg h, beq_ne (i := j) (j := i) (by omega)]
        rfl
    | false =>
      simp only [cond_false, optA]
      have hjk : j ≠ k := fun e => by rw [e, Nat.beq_refl] at hb; cases hb
      cases hi : Nat.beq j i with
      | true =>
        have := Nat.eq_of_beq_eq_true hi
        simp only [cond_true]
        rw [if_neg (by omega)]
        rfl
      | false =>
        simp only [cond_false]
        exact fzO_ob
section
variable {W0 : World} {V0 : View} {Own : Fra} {P : Program} {N : Nat} {w : World} {V V' : View} {G G' : Ctx} {st : St} {a : Act} {μ : Nat → Option Ob}
/-- What a value of object k is, once that is written no more. -/
structure Froz (V V' : View) (G G' : Ctx) (k : Nat) (ob : Ob) : Prop where
  le : V.le V'
  other : ∀ j, j ≠ k → G' j = G j
  hs : ∀ ver esz xs off len v, ob = .arr ver esz xs → Rep V G (.hs k ver off len) v → RepP V' (.sl ((xs.drop off).take len)) v
  er : ∀ ver esz xs i off v c, ob = .arr ver esz xs → xs[i]? = some c → Rep V G (.er k ver i off) v → RepP V' (.rp (c.drop off)) v
  ref : ∀ cs off v, (ob = .pbox cs ∨ ob = .box cs) → Rep V G (.ref k off) v → RepP V' (.rp (cs.drop off)) v
mutual
theorem fz_rep {k : Nat} {ob : Ob} (F : Froz V V' G G' k ob) : ∀ {x : AV} {v : Value}, Rep V G x v → Rep V' G' (fz k ob x) v := by
  intro x v h
  cases x <;> simp only [fz]
  case ref j off =>
    cases hb : Nat.beq j k with
    | true =>
      obtain rfl := Nat.eq_of_beq_eq_true hb
      simp only [cond_true]
      split
      · exact (F.ref _ off v (.inl rfl) h).rep _
      · exact (F.ref _ off v (.inr rfl) h).rep _
      · simp only [Rep]
    | false =>
      have hne : j ≠ k := fun e => by rw [e, Nat.beq_refl] at hb; cases hb
      simp only [cond_false, Rep] at h ⊢
      rw [F.other j hne]
      exact h
  case hs j ver off len =>
    cases hb : Nat.beq j k with
    | true =>
      obtain rfl := Nat.eq_of_beq_eq_true hb
      simp only [cond_true]
      split
      · split
        · rename_i e
          subst e
          exact (F.hs _ _ _ off len v rfl h).rep _
        · simp only [Rep]
      · simp only [Rep]
    | false =>
      have hne : j ≠ k := fun e => by rw [e, Nat.beq_refl] at hb; cases hb
      simp only [cond_false, Rep] at h ⊢
      rw [F.other j hne]
      exact h
  case er j ver i off =>
    cases hb : Nat.beq j k with
    | true =>
      obtain rfl := Nat.eq_of_beq_eq_true hb
      simp only [cond_true]
      split
      · split
        · rename_i e
          subst e
          split
          · rename_i c hc
            exact (F.er _ _ _ i off v c rfl hc h).rep _
          · simp only [Rep]
        · simp only [Rep]
      · simp only [Rep]
    | false =>
      have hne : j ≠ k := fun e => by rw [e, Nat.beq_refl] at hb; cases hb
      simp only [cond_false, Rep] at h ⊢
      rw [F.other j hne]
      exact h
  case fn f caps =>
    simp only [Rep] at h ⊢
    obtain ⟨cv, e, r⟩ := h
    exact ⟨cv, e, fz_repL F r⟩
  case tup xs =>
    simp only [Rep] at h ⊢
    obtain ⟨cv, e, r⟩ := h
    exact ⟨cv, e, fz_repL F r⟩
  case mag xs =>
    simp only [Rep] at h ⊢
    obtain ⟨cv, e, r⟩ := h
    exact ⟨cv, e, fz_repL F r⟩
  case mif t x =>
    simp only [Rep] at h
    obtain ⟨u, e, r⟩ := h
    have := fz_rep F r
    split
    · rename_i c hc
      rw [hc] at this
      simp only [Rep] at this
      simp only [Rep, RepP]
      exact ⟨u, e, by simpa only [RepP] using this⟩
    · simp only [Rep]
      exact ⟨u, e, this⟩
  case dead => simp only [Rep]
  all_goals exact RepP.mono F.le h
theorem fz_repL {k : Nat} {ob : Ob} (F : Froz V V' G G' k ob) : ∀ {x : List AV} {v : List Value}, RepL V G x v → RepL V' G' (fzL k ob x) v := by
  intro x v h
  cases x with
  | nil => simpa only [fzL, RepL] using h
  | cons x xs =>
    simp only [fzL, RepL] at h ⊢
    obtain ⟨y, r, e, p, q⟩ := h
    exact ⟨y, r, e, fz_rep F p, fz_repL F q⟩
end
theorem rel_frz {k : Nat} {ob : Ob} (hm : st.ob k = some ob) (hok : frzOk ob = true) (hkey : ∀ b, ¬ Own.key k b) (hctx : Own.ctx k = none) (hr : Rel W0 V0 Own N st a w V G) : ∃ V' G', V.le V' ∧ Rel W0 V0 Own N (st.frz k ob) a w V' G' := by
  have hs := hr.sat
  obtain ⟨s, hg, hob⟩ := hs.obs k ob hm
  -- the block, if there is one
  obtain ⟨V', hle, hview, hnew, hpriv, F⟩ : ∃ V', V.le V' ∧ (∀ b o v, V' b o = some v → w.cell? ⟨b, o, none⟩ = some v) ∧ (∀ b o, b < W0.heap.size → V' b o = V b o) ∧ (∀ b, s.block ≠ some b → ∀ o, V' b o = V b o) ∧
      Froz V V' G (fun j => if j = k then none else G j) k ob := by
    have hother : ∀ j, j ≠ k → (fun j => if j = k then none else G j) j = G j := fun j hj => if_neg hj
    cases hbl : s.block with
    | none =>
      refine ⟨V, View.le_refl _, hs.view, fun _ _ _ => rfl, fun _ _ _ => rfl, View.le_refl _, hother, ?_, ?_, ?_⟩
      · rintro ver esz xs off len v rfl h
        obtain ⟨loc, A, cap, hg', hv, hlc, hol, hnc, hq⟩ := hs_open hs h hm
        rw [hg] at hg'
        cases hg'
        rcases hq with ⟨rfl, rfl, rfl, rfl⟩ | ⟨b, of, tot, us, T, rfl, _⟩
        · have : len = 0 := by simp at hol; omega
          subst this
          simp only [RepP]
          exact ⟨none, 0, by simpa using hv, by simp, .inl (by simp)⟩
        · simp [Sh.block] at hbl
      · rintro ver esz xs i off v c rfl hc h
        simp only [Rep] at h
        obtain ⟨_, ver2, esz', nn, loc, hg', hle', hq⟩ := h
        rw [hg] at hg'
        cases hg'
        obtain ⟨rfl, rfl, rfl, hnone, hloc⟩ := hob
        obtain ⟨b, o', tot, rfl, _⟩ := hq rfl
        simp [Sh.block] at hbl
      · intro cs off v hcs h
        simp only [Rep] at h
        obtain ⟨b, hg', _⟩ := h
        rw [hg] at hg'
        cases hg'
        simp [Sh.block] at hbl
    | some b =>
      obtain ⟨p1, p2, p3⟩ := hs.priv k s b hg hbl
      have hbig : W0.heap.size ≤ b := Nat.le_of_not_lt fun hlt => hkey b (hs.loc k s b hg hbl hlt)
      have hblk : ∃ (us : List Value) (T : TypeId), w.heap[b]? = some (.cells us.toArray T (0, 0)) := by
        cases s <;> cases ob <;> simp only [ObOk] at hob <;> simp only [Sh.block] at hbl
        · cases hbl; obtain ⟨us, T, e, _⟩ := hob; exact ⟨us, T, e⟩
        · cases hbl; obtain ⟨us, T, e, _⟩ := hob; exact ⟨us, T, e⟩
        · rename_i loc _ _ _
          cases loc with
          | none => cases hbl
          | some loc =>
            obtain ⟨b', o', tot⟩ := loc
            cases hbl
            obtain ⟨us, T, e, _⟩ := hob.2.2.2.2 _ _ _ rfl
            exact ⟨us, T, e⟩
      obtain ⟨us, T, hh⟩ := hblk
      have hle : V.le (viewNew V b us) := by
        intro b' o v e
        unfold viewNew
        rw [if_neg]
        · exact e
        · intro e'
          rw [e', p3 o] at e
          cases e
      have hself : viewNew V b us b = fun i => us[i]? := by
        funext i
        unfold viewNew
        rw [if_pos rfl]
      refine ⟨viewNew V b us, hle, ?_, ?_, ?_, hle, hother, ?_, ?_, ?_⟩
      · intro b' o v e
        unfold viewNew at e
        split at e
        · rename_i hb
          subst hb
          exact cell_of hh e
        · exact hs.view b' o v e
      · intro b' o hlt
        unfold viewNew
        rw [if_neg (by omega)]
      · intro b' hne o
        unfold viewNew
        rw [if_neg (fun e => hne (by rw [e]))]
      · rintro ver esz xs off len v rfl h
        obtain ⟨loc, A, cap, hg', hv, hlc, hol, hnc, hq⟩ := hs_open hs h hm
        rw [hg] at hg'
        cases hg'
        have hlen : ((xs.drop off).take len).length = len := by simp; omega
        rcases hq with ⟨rfl, rfl, rfl, rfl⟩ | ⟨b', of, tot, us', T', rfl, hA, htot, hh', ht, hle', hr'⟩
        · simp [Sh.block] at hbl
        · simp only [Sh.block, Option.map_some, Option.some.injEq] at hbl
          subst hbl
          rw [hh] at hh'
          simp only [Option.some.injEq, Obj.cells.injEq] at hh'
          have hus : us' = us := by
            have := congrArg Array.toList hh'.1
            simpa using this.symm
          subst hus
          simp only [RepP]
          refine ⟨A, cap, by rw [hlen]; exact hv, by rw [hlen]; exact hlc, ?_⟩
          by_cases h0 : (xs.drop off).take len = []
          · exact .inl h0
          · right
            have hl0 : len ≠ 0 := fun e => h0 (by rw [e]; simp)
            refine ⟨_, _, esz, hA.resolve_left (by omega), ?_⟩
            rw [hself]
            exact ((hr'.drop off).take len).mono hle fun i y hy => hy
      · rintro ver esz xs i off v c rfl hc h
        simp only [Rep] at h
        obtain ⟨_, ver2, esz', nn, loc, hg', hle', hq⟩ := h
        rw [hg] at hg'
        cases hg'
        obtain ⟨rfl, rfl, rfl, hnone, hloc⟩ := hob
        obtain ⟨b', o', tot, rfl, hin, hv⟩ := hq rfl
        obtain ⟨us', T', hh', ht, hle2, hr'⟩ := hloc b' o' tot rfl
        simp only [Sh.block, Option.map_some, Option.some.injEq] at hbl
        subst hbl
        rw [hh] at hh'
        simp only [Option.some.injEq, Obj.cells.injEq] at hh'
        have hus : us' = us := by
          have := congrArg Array.toList hh'.1
          simpa using this.symm
        subst hus
        simp only [RepP]
        refine ⟨_, _, hv, ?_⟩
        rw [hself]
        exact ((hr'.get hc).2.drop off).mono hle fun i y hy => hy
      · intro cs off v hcs h
        simp only [Rep] at h
        obtain ⟨b', hg', hv⟩ := h
        rw [hg] at hg'
        cases hg'
        simp only [Sh.block, Option.some.injEq] at hbl
        subst hbl
        have hcells : ∃ us' T', w.heap[b']? = some (.cells us'.toArray T' (0, 0)) ∧ RepPL V cs us' ∧ ∀ u ∈ us', u.oneCell' = true := by
          rcases hcs with rfl | rfl
          · exact hob
          · obtain ⟨us', T', e, r, q⟩ := hob
            exact ⟨us', T', e, r.pure hok, q⟩
        obtain ⟨us', T', hh', hr', h1'⟩ := hcells
        rw [hh] at hh'
        simp only [Option.some.injEq, Obj.cells.injEq] at hh'
        have hus : us' = us := by
          have := congrArg Array.toList hh'.1
          simpa using this.symm
        subst hus
        simp only [RepP]
        refine ⟨b', off, hv, ?_⟩
        have hc : RepC (viewNew V b' us') (viewNew V b' us' b') 0 cs := viewNew_rep hr' hle h1'
        have := hc.drop off
        rwa [Nat.zero_add] at this
  refine ⟨V', fun j => if j = k then none else G j, hle, ?_, fun i => ?_, hr.size, hr.defers, fun j s' e => ?_⟩
  · have e : (st.frz k ob).ob = fun i => if i = k then none else (st.ob i).map (fzOb k ob) := by
      funext i
      exact fzO_ob
    rw [e]
    refine ⟨hs.keep, hview, View.le_trans hs.vle hle, fun b o hb => by rw [hnew b o hb]; exact hs.vnew b o hb, fun j ob' e => ?_, fun j s' e => ?_, fun j s' b e hb => ?_, fun j j' s1 s2 b e1 e2 h1 h2 => ?_, fun j s' b e hb hlt => ?_⟩
    · by_cases hj : j = k
      · rw [if_pos hj] at e; cases e
      · rw [if_neg hj] at e ⊢
        obtain ⟨ob0, e0, rfl⟩ := Option.map_eq_some_iff.1 e
        obtain ⟨s0, hg0, ho0⟩ := hs.obs j ob0 e0
        refine ⟨s0, hg0, ?_⟩
        cases ob0 <;> cases s0 <;> simp only [fzOb, ObOk] at ho0 ⊢
        · obtain ⟨us, T, e, r, q⟩ := ho0
          exact ⟨us, T, e, fz_repL F r, q⟩
        · obtain ⟨us, T, e, r, q⟩ := ho0
          exact ⟨us, T, e, r.mono hle, q⟩
        · obtain ⟨h1, h2, h3, h4, h5⟩ := ho0
          refine ⟨h1, h2, h3, h4, fun b o tot hl => ?_⟩
          obtain ⟨us, T, e, t, l, r⟩ := h5 b o tot hl
          exact ⟨us, T, e, t, l, r.mono hle (fun _ _ h => h)⟩
    · by_cases hj : j = k
      · rw [if_pos hj] at e; cases e
      · rw [if_neg hj] at e ⊢
        obtain ⟨ob0, e0⟩ := hs.dom j s' e
        exact ⟨_, by rw [e0]; rfl⟩
    · by_cases hj : j = k
      · rw [if_pos hj] at e; cases e
      · rw [if_neg hj] at e
        obtain ⟨p1, p2, p3⟩ := hs.priv j s' b e hb
        refine ⟨p1, p2, fun o => ?_⟩
        rw [hpriv b (fun hx => hj (hs.inj j k s' s b e hg hb hx)) o]
        exact p3 o
    · by_cases hj : j = k
      · rw [if_pos hj] at e1; cases e1
      · by_cases hj' : j' = k
        · rw [if_pos hj'] at e2; cases e2
        · rw [if_neg hj] at e1
          rw [if_neg hj'] at e2
          exact hs.inj j j' s1 s2 b e1 e2 h1 h2
    · by_cases hj : j = k
      · rw [if_pos hj] at e; cases e
      · rw [if_neg hj] at e
        exact hs.loc j s' b e hb hlt
  · show Rep V' _ (getA .dead (fzR k ob st.regs) i) _
    rw [fzR_reg]
    exact fz_rep F (hr.regs i)
  · have hj : j ≠ k := fun e' => by rw [e', hctx] at e; cases e
    rw [if_neg hj]
    exact hr.ini j s' e
end
end Go.AM
