/- Objects under other names; who may be handed on under which name. -/
import Derived.Test.YtmmgdilhbkklpaaAMC
namespace Go.AM
open Go
set_option linter.unusedVariables false
set_option linter.unusedSimpArgs false
/-- All pairs, the first of which stands ahead of the second. -/
def pairsOk {α : Type} (clash : α → α → Bool) (prec : List (List Nat)) : Nat → List (Nat × α) → List α → Bool
  | _, _, [] => true
  | j, seen, y :: l => seen.all (fun p => !clash p.2 y || (prec.getD j []).any fun k => Nat.beq k p.1) && pairsOk clash prec (j + 1) ((j, y) :: seen) l
theorem pairsOk_spec {α : Type} {clash : α → α → Bool} {prec : List (List Nat)} : ∀ {l : List α} {j : Nat} {seen : List (Nat × α)}, pairsOk clash prec j seen l = true →
    (∀ k y, l[k]? = some y → ∀ p ∈ seen, clash p.2 y = true → p.1 ∈ prec.getD (j + k) []) ∧ (∀ i k x y, i < k → l[i]? = some x → l[k]? = some y → clash x y = true → j + i ∈ prec.getD (j + k) [])
  | [], j, seen, h => ⟨fun k y hk => by simp at hk, fun i k x y _ hi => by simp at hi⟩
  | z :: l, j, seen, h => by
    simp only [pairsOk, Bool.and_eq_true] at h
    obtain ⟨h1, h2⟩ := pairsOk_spec h.2
    have h0 := h.1
    rw [List.all_eq_true] at h0
    refine ⟨fun k y hk p hp hc => ?_, fun i k x y hik hi hk hc => ?_⟩
    · cases k with
      | zero =>
        simp at hk
        subst hk
        have := h0 p hp
        simp only [hc, Bool.not_true, Bool.false_or, List.any_eq_true] at this
        obtain ⟨q, hq, he⟩ := this
        rw [Nat.add_zero, ← Nat.eq_of_beq_eq_true he]
        exact hq
      | succ k =>
        have := h1 k y (by simpa using hk) p (List.mem_cons_of_mem _ hp) hc
        rwa [show j + (k + 1) = j + 1 + k by omega]
    · cases k with
      | zero => omega
      | succ k =>
        cases i with
        | zero =>
          simp at hi
          subst hi
          have := h1 k y (by simpa using hk) (j, z) List.mem_cons_self hc
          rwa [show j + (k + 1) = j + 1 + k by omega]
        | succ i =>
          have := h2 i k x y (by omega) (by simpa using hi) (by simpa using hk) hc
          rwa [show j + 1 + i = j + (i + 1) by omega, show j + 1 + k = j + (k + 1) by omega] at this
mutual
/-- The same value, where its objects have other names; those that have none are gone. -/
def ren (m : List (Nat × Nat)) : AV → AV
  | .ref k off => match optA m k with | some k' => .ref k' off | none => .dead
  | .hs k ver off len => match optA m k with | some k' => .hs k' ver off len | none => .dead
  | .er k ver i off => match optA m k with | some k' => .er k' ver i off | none => .dead
  | .fn f caps => .fn f (renL m caps)
  | .tup xs => .tup (renL m xs)
  | .int k n => .int k n
  | .bool b => .bool b
  | .str s => .str s
  | .nilp => .nilp
  | .nilf => .nilf
  | .nili => .nili
  | .sl xs => .sl xs
  | .fl xs => .fl xs
  | .rp cs => .rp cs
  | .ifc t x => .ifc t x
  | .agg cs => .agg cs
  | .mag cs => .mag (renL m cs)
  | .mif t x => .mif t (ren m x)
  | .anyb => .anyb
  | .yl l => .yl l
  | .dead => .dead
def renL (m : List (Nat × Nat)) : List AV → List AV
  | [] => []
  | x :: xs => ren m x :: renL m xs
end
def renOb (m : List (Nat × Nat)) : Ob → Ob
  | .box cs => .box (renL m cs)
  | .pbox cs => .pbox cs
  | .arr v e xs => .arr v e xs
section
variable {W0 : World} {V0 : View} {Own : Fra} {P : Program} {w w' : World} {V V' : View} {G G' : Ctx} {μ : Nat → Option Ob} {m : List (Nat × Nat)}
mutual
theorem Rep.ren (hm : ∀ k k', optA m k = some k' → G' k' = G k) : ∀ {x : AV} {v : Value}, Rep V G x v → Rep V G' (ren m x) v := by
  intro x v h
  cases x <;> simp only [Go.AM.ren]
  case ref k off =>
    cases hk : optA m k with
    | none => simp only [Rep]
    | some k' =>
      simp only [Rep] at h ⊢
      rw [hm k k' hk]
      exact h
  case hs k ver off len =>
    cases hk : optA m k with
    | none => simp only [Rep]
    | some k' =>
      simp only [Rep] at h ⊢
      rw [hm k k' hk]
      exact h
  case er k ver off len =>
    cases hk : optA m k with
    | none => simp only [Rep]
    | some k' =>
      simp only [Rep] at h ⊢
      rw [hm k k' hk]
      exact h
  case fn f caps =>
    simp only [Rep] at h ⊢
    obtain ⟨cv, e, r⟩ := h
    exact ⟨cv, e, RepL.ren hm r⟩
  case tup xs =>
    simp only [Rep] at h ⊢
    obtain ⟨cv, e, r⟩ := h
    exact ⟨cv, e, RepL.ren hm r⟩
  case mag xs =>
    simp only [Rep] at h ⊢
    obtain ⟨cv, e, r⟩ := h
    exact ⟨cv, e, RepL.ren hm r⟩
  case mif t x =>
    simp only [Rep] at h ⊢
    obtain ⟨u, e, r⟩ := h
    exact ⟨u, e, Rep.ren hm r⟩
  case dead => simp only [Rep]
  all_goals exact h
theorem RepL.ren (hm : ∀ k k', optA m k = some k' → G' k' = G k) : ∀ {x : List AV} {v : List Value}, RepL V G x v → RepL V G' (renL m x) v := by
  intro x v h
  cases x with
  | nil => simpa only [renL, RepL] using h
  | cons x xs =>
    simp only [renL, RepL] at h ⊢
    obtain ⟨y, r, e, p, q⟩ := h
    exact ⟨y, r, e, Rep.ren hm p, RepL.ren hm q⟩
end
theorem ObOk.ren (hm : ∀ k k', optA m k = some k' → G' k' = G k) {s : Sh} {ob : Ob} (h : ObOk V G w s ob) : ObOk V G' w s (renOb m ob) := by
  cases ob <;> cases s <;> simp only [renOb, ObOk] at h ⊢
  case box cs b =>
    obtain ⟨us, T, e, r, q⟩ := h
    exact ⟨us, T, e, r.ren hm, q⟩
  all_goals exact h
/-- Pairs of names: no old one twice, no new one twice. -/
def keysOk (m : List (Nat × Nat)) : Bool := pairsOk (fun (a b : Nat × Nat) => Nat.beq a.1 b.1 || Nat.beq a.2 b.2) [] 0 [] m
def invL : List (Nat × Nat) → List (Nat × Nat)
  | [] => []
  | (a, b) :: r => (b, a) :: invL r
theorem optA_mem : ∀ {m : List (Nat × Nat)} {k k' : Nat}, optA m k = some k' → (k, k') ∈ m
  | [], k, k', h => by simp [optA] at h
  | (a, b) :: r, k, k', h => by
    simp only [optA] at h
    cases hb : Nat.beq a k with
    | true =>
      rw [hb] at h
      simp only [cond_true, Option.some.injEq] at h
      rw [Nat.eq_of_beq_eq_true hb, h]
      exact List.mem_cons_self
    | false =>
      rw [hb] at h
      exact List.mem_cons_of_mem _ (optA_mem h)
theorem optA_of_mem : ∀ {m : List (Nat × Nat)} {k k' : Nat}, (∀ x ∈ m, ∀ y ∈ m, x.1 = y.1 → x = y) → (k, k') ∈ m → optA m k = some k'
  | [], k, k', _, h => by cases h
  | (a, b) :: r, k, k', hu, h => by
    simp only [optA]
    cases hb : Nat.beq a k with
    | true =>
      have := hu (a, b) List.mem_cons_self (k, k') h (Nat.eq_of_beq_eq_true hb)
      simp only [Prod.mk.injEq] at this
      simp [this.2]
    | false =>
      rcases List.mem_cons.1 h with h | h
      · simp only [Prod.mk.injEq] at h
        rw [h.1, Nat.beq_refl] at hb
        cases hb
      · exact optA_of_mem (fun x hx y hy => hu x (List.mem_cons_of_mem _ hx) y (List.mem_cons_of_mem _ hy)) h
theorem keysOk_spec (h : keysOk m = true) : (∀ x ∈ m, ∀ y ∈ m, x.1 = y.1 → x = y) ∧ (∀ x ∈ m, ∀ y ∈ m, x.2 = y.2 → x = y) := by
  have hs := (pairsOk_spec h).2
  have key : ∀ (i k : Nat) (x y : Nat × Nat), i < k → m[i]? = some x → m[k]? = some y → ¬ (x.1 = y.1 ∨ x.2 = y.2) := by
    intro i k x y hik hi hk hx
    have := hs i k x y hik hi hk (by rcases hx with hx | hx <;> simp [hx])
    simp at this
  have gen : ∀ x ∈ m, ∀ y ∈ m, (x.1 = y.1 ∨ x.2 = y.2) → x = y := by
    intro x hx y hy hxy
    obtain ⟨i, hi⟩ := List.mem_iff_getElem?.1 hx
    obtain ⟨k, hk⟩ := List.mem_iff_getElem?.1 hy
    rcases Nat.lt_trichotomy i k with h1 | h1 | h1
    · exact absurd hxy (key i k x y h1 hi hk)
    · subst h1
      rw [hi] at hk
      cases hk
      rfl
    · exact absurd (by rcases hxy with h | h <;> simp [h]) (key k i y x h1 hk hi)
  exact ⟨fun x hx y hy h => gen x hx y hy (.inl h), fun x hx y hy h => gen x hx y hy (.inr h)⟩
theorem invL_mem : ∀ {m : List (Nat × Nat)} {a b : Nat}, (b, a) ∈ invL m ↔ (a, b) ∈ m
  | [], a, b => by simp [invL]
  | (c, d) :: r, a, b => by
    simp only [invL, List.mem_cons, Prod.mk.injEq, invL_mem]
    constructor <;> rintro (⟨h1, h2⟩ | h) <;> first | exact .inl ⟨h2, h1⟩ | exact .inr h
theorem optA_inv (h : keysOk m = true) {a b : Nat} : optA (invL m) b = some a ↔ optA m a = some b := by
  obtain ⟨h1, h2⟩ := keysOk_spec h
  constructor
  · intro e
    exact optA_of_mem h1 (invL_mem.1 (optA_mem e))
  · intro e
    refine optA_of_mem ?_ (invL_mem.2 (optA_mem e))
    intro x hx y hy hxy
    obtain ⟨x1, x2⟩ := x
    obtain ⟨y1, y2⟩ := y
    have := h2 _ (invL_mem.1 hx) _ (invL_mem.1 hy) hxy
    simp only [Prod.mk.injEq] at this ⊢
    exact ⟨this.2, this.1⟩
/-- All objects get other names; those that have none are gone. -/
def renC (m : List (Nat × Nat)) (G : Ctx) : Ctx := fun k' => (optA (invL m) k').bind G
def renM (m : List (Nat × Nat)) (μ : Nat → Option Ob) : Nat → Option Ob := fun k' => (optA (invL m) k').bind fun k => (μ k).map (renOb m)
theorem renC_spec (h : keysOk m = true) : ∀ k k', optA m k = some k' → renC m G k' = G k := by
  intro k k' hk
  unfold renC
  rw [(optA_inv h).2 hk]
  rfl
theorem Sat.ren (hs : Sat W0 V0 Own V G w μ) (h : keysOk m = true) (hkey : ∀ k k' b, optA m k = some k' → Own.key k b → Own.key k' b) : Sat W0 V0 Own V (renC m G) w (renM m μ) where
  keep := hs.keep
  view := hs.view
  vle := hs.vle
  vnew := hs.vnew
  obs := fun k' ob e => by
    unfold renM at e
    cases hk : optA (invL m) k' with
    | none => rw [hk] at e; cases e
    | some k =>
      rw [hk] at e
      simp only [Option.bind_some, Option.map_eq_some_iff] at e
      obtain ⟨ob', e', rfl⟩ := e
      obtain ⟨s, hg, ho⟩ := hs.obs k ob' e'
      refine ⟨s, ?_, ho.ren (renC_spec h)⟩
      unfold renC
      rw [hk]
      exact hg
  dom := fun k' s e => by
    unfold renC at e
    unfold renM
    cases hk : optA (invL m) k' with
    | none => rw [hk] at e; cases e
    | some k =>
      rw [hk] at e
      obtain ⟨ob, e'⟩ := hs.dom k s e
      exact ⟨Go.AM.renOb m ob, by simp only [Option.bind_some, e', Option.map_some]⟩
  priv := fun k' s b e hb => by
    unfold renC at e
    cases hk : optA (invL m) k' with
    | none => rw [hk] at e; cases e
    | some k =>
      rw [hk] at e
      exact hs.priv k s b e hb
  inj := fun k1 k2 s1 s2 b e1 e2 h1 h2 => by
    unfold renC at e1 e2
    cases hk1 : optA (invL m) k1 with
    | none => rw [hk1] at e1; cases e1
    | some a1 =>
      cases hk2 : optA (invL m) k2 with
      | none => rw [hk2] at e2; cases e2
      | some a2 =>
        rw [hk1] at e1
        rw [hk2] at e2
        have := hs.inj a1 a2 s1 s2 b e1 e2 h1 h2
        subst this
        have q1 := (optA_inv h).1 hk1
        have q2 := (optA_inv h).1 hk2
        rw [q1] at q2
        cases q2
        rfl
  loc := fun k' s b e hb hlt => by
    unfold renC at e
    cases hk : optA (invL m) k' with
    | none => rw [hk] at e; cases e
    | some k =>
      rw [hk] at e
      exact hkey k k' b ((optA_inv h).1 hk) (hs.loc k s b e hb hlt)
end
def idxM : Nat → List Nat → List (Nat × Nat)
  | _, [] => []
  | n, k :: r => (k, n) :: idxM (n + 1) r
def mapOb (m : List (Nat × Nat)) : List Ob → List Ob
  | [] => []
  | o :: r => renOb m o :: mapOb m r
section
variable {W0 : World} {V0 : View} {Own : Fra} {P : Program} {w w' : World} {V V' : View} {G G' : Ctx} {μ : Nat → Option Ob}
theorem idx_get : ∀ {ks : List Nat} {n i : Nat}, optA (invL (idxM n ks)) i = if n ≤ i then ks[i - n]? else none
  | [], n, i => by simp [idxM, invL, optA]
  | k :: r, n, i => by
    simp only [idxM, invL, optA]
    cases hb : Nat.beq n i with
    | true =>
      have := Nat.eq_of_beq_eq_true hb
      subst this
      simp
    | false =>
      have hne : n ≠ i := fun e => by rw [e, Nat.beq_refl] at hb; cases hb
      simp only [cond_false]
      rw [idx_get]
      by_cases h : n ≤ i
      · rw [if_pos h, if_pos (by omega), show i - n = (i - (n + 1)) + 1 by omega, List.getElem?_cons_succ]
      · rw [if_neg h, if_neg (by omega)]
theorem mapOb_get {m : List (Nat × Nat)} : ∀ {obs : List Ob} {i : Nat}, (mapOb m obs)[i]? = (obs[i]?).map (renOb m)
  | [], i => by simp [mapOb]
  | o :: r, 0 => by simp [mapOb]
  | o :: r, i + 1 => by simpa [mapOb] using mapOb_get (obs := r) (i := i)
theorem idx_mem {ks : List Nat} {n i k : Nat} (h : (k, i) ∈ idxM n ks) : n ≤ i ∧ ks[i - n]? = some k := by
  induction ks generalizing n with
  | nil => cases h
  | cons x r ih =>
    simp only [idxM, List.mem_cons, Prod.mk.injEq] at h
    rcases h with ⟨rfl, rfl⟩ | h
    · simp
    · obtain ⟨h1, h2⟩ := ih h
      refine ⟨by omega, ?_⟩
      rw [show i - n = (i - (n + 1)) + 1 by omega, List.getElem?_cons_succ]
      exact h2
theorem Sat.rebase (hs : Sat W0 V0 Own V G w μ) : Sat w V G.owns V G w μ where
  keep := ⟨rfl, rfl, rfl, Nat.le_refl _, fun _ _ _ => rfl⟩
  view := hs.view
  vle := View.le_refl _
  vnew := fun _ _ _ => rfl
  obs := hs.obs
  dom := hs.dom
  priv := fun k s b e hb => ⟨(hs.priv k s b e hb).1, .inl ⟨k, s, e, hb⟩, (hs.priv k s b e hb).2.2⟩
  inj := hs.inj
  loc := fun k s b e hb _ => ⟨s, e, hb⟩
theorem Sat.weak (hs : Sat W0 V0 Own V G w μ) : Sat W0 V0 ⟨Own.own, fun _ _ => True, Own.ctx⟩ V G w μ where
  keep := ⟨hs.keep.os, hs.keep.tape, hs.keep.output, hs.keep.size, hs.keep.block⟩
  view := hs.view
  vle := hs.vle
  vnew := hs.vnew
  obs := hs.obs
  dom := hs.dom
  priv := hs.priv
  inj := hs.inj
  loc := fun _ _ _ _ _ _ => trivial
theorem keysOk_distinct {ks : List Nat} (h : keysOk (idxM 0 ks) = true) : ∀ (i k : Nat), i < k → ∀ x y, ks[i]? = some x → ks[k]? = some y → x ≠ y := by
  intro i k hik x y hx hy e
  subst e
  have h1 : optA (invL (idxM 0 ks)) i = some x := by rw [idx_get, if_pos (Nat.zero_le _), Nat.sub_zero]; exact hx
  have h2 : optA (invL (idxM 0 ks)) k = some x := by rw [idx_get, if_pos (Nat.zero_le _), Nat.sub_zero]; exact hy
  rw [optA_inv h] at h1 h2
  rw [h1] at h2
  cases h2
  omega
end
end Go.AM
