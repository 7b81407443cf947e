/- Objects that get other names; objects that are written no more; calls that hand objects on. -/
import Derived.Test.YtapfnhhedieebaaAMU
namespace Go.AM
open Go
set_option linter.unusedVariables false
set_option linter.unusedSimpArgs false
mutual
/-- The same value, where its objects have other names; those that have none are gone. -/
def ren (m : List (Nat × Nat)) : AV → AV
  | .ref k off => match optA m k with | some k' => .ref k' off | none => .dead
  | .hs k ver off len => match optA m k with | some k' => .hs k' ver off len | none => .dead
  | .er k ver i off => match optA m k with | some k' => .er k' ver i off | none => .dead
  | .fn f caps => .fn f (renL m caps)
  | .tup xs => .tup (renL m xs)
  | .int k n => .int k n
  | .bool b => .bool b
  | .str s => .str s
  | .nilp => .nilp
  | .nilf => .nilf
  | .nili => .nili
  | .sl xs => .sl xs
  | .fl xs => .fl xs
  | .rp cs => .rp cs
  | .ifc t x => .ifc t x
  | .agg cs => .agg cs
  | .dead => .dead
def renL (m : List (Nat × Nat)) : List AV → List AV
  | [] => []
  | x :: xs => ren m x :: renL m xs
end
def renOb (m : List (Nat × Nat)) : Ob → Ob
  | .box cs => .box (renL m cs)
  | .pbox cs => .pbox cs
  | .arr v e xs => .arr v e xs
section
variable {W0 : World} {V0 : View} {Own : Fra} {P : Program} {w w' : World} {V V' : View} {G G' : Ctx} {μ : Nat → Option Ob} {m : List (Nat × Nat)}
mutual
theorem Rep.ren (hm : ∀ k k', optA m k = some k' → G' k' = G k) : ∀ {x : AV} {v : Value}, Rep V G x v → Rep V G' (ren m x) v := by
  intro x v h
  cases x <;> simp only [Go.AM.ren]
  case ref k off =>
    cases hk : optA m k with
    | none => simp only [Rep]
    | some k' =>
      simp only [Rep] at h ⊢
      rw [hm k k' hk]
      exact h
  case hs k ver off len =>
    cases hk : optA m k with
    | none => simp only [Rep]
    | some k' =>
      simp only [Rep] at h ⊢
      rw [hm k k' hk]
      exact h
  case er k ver off len =>
    cases hk : optA m k with
    | none => simp only [Rep]
    | some k' =>
      simp only [Rep] at h ⊢
      rw [hm k k' hk]
      exact h
  case fn f caps =>
    simp only [Rep] at h ⊢
    obtain ⟨cv, e, r⟩ := h
    exact ⟨cv, e, RepL.ren hm r⟩
  case tup xs =>
    simp only [Rep] at h ⊢
    obtain ⟨cv, e, r⟩ := h
    exact ⟨cv, e, RepL.ren hm r⟩
  case dead => simp only [Rep]
  all_goals exact h
theorem RepL.ren (hm : ∀ k k', optA m k = some k' → G' k' = G k) : ∀ {x : List AV} {v : List Value}, RepL V G x v → RepL V G' (renL m x) v := by
  intro x v h
  cases x with
  | nil => simpa only [renL, RepL] using h
  | cons x xs =>
    simp only [renL, RepL] at h ⊢
    obtain ⟨y, r, e, p, q⟩ := h
    exact ⟨y, r, e, Rep.ren hm p, RepL.ren hm q⟩
end
theorem ObOk.ren (hm : ∀ k k', optA m k = some k' → G' k' = G k) {s : Sh} {ob : Ob} (h : ObOk V G w s ob) : ObOk V G' w s (renOb m ob) := by
  cases ob <;> cases s <;> simp only [renOb, ObOk] at h ⊢
  case box cs b =>
    obtain ⟨us, T, e, r, q⟩ := h
    exact ⟨us, T, e, r.ren hm, q⟩
  all_goals exact h
/-- Pairs of names: no old one twice, no new one twice. -/
def keysOk (m : List (Nat × Nat)) : Bool := pairsOk (fun (a b : Nat × Nat) => Nat.beq a.1 b.1 || Nat.beq a.2 b.2) [] 0 [] m
def invL : List (Nat × Nat) → List (Nat × Nat)
  | [] => []
  | (a, b) :: r => (b, a) :: invL r
theorem optA_mem : ∀ {m : List (Nat × Nat)} {k k' : Nat}, optA m k = some k' → (k, k') ∈ m
  | [], k, k', h => by simp [optA] at h
  | (a, b) :: r, k, k', h => by
    simp only [optA] at h
    cases hb : Nat.beq a k with
    | true =>
      rw [hb] at h
      simp only [cond_true, Option.some.injEq] at h
      rw [Nat.eq_of_beq_eq_true hb, h]
      exact List.mem_cons_self
    | false =>
      rw [hb] at h
      exact List.mem_cons_of_mem _ (optA_mem h)
theorem optA_of_mem : ∀ {m : List (Nat × Nat)} {k k' : Nat}, (∀ x ∈ m, ∀ y ∈ m, x.1 = y.1 → x = y) → (k, k') ∈ m → optA m k = some k'
  | [], k, k', _, h => by cases h
  | (a, b) :: r, k, k', hu, h => by
    simp only [optA]
    cases hb : Nat.beq a k with
    | true =>
      have := hu (a, b) List.mem_cons_self (k, k') h (Nat.eq_of_beq_eq_true hb)
      simp only [Prod.mk.injEq] at this
      simp [this.2]
    | false =>
      rcases List.mem_cons.1 h with h | h
      · simp only [Prod.mk.injEq] at h
        rw [h.1, Nat.beq_refl] at hb
        cases hb
      · exact optA_of_mem (fun x hx y hy => hu x (List.mem_cons_of_mem _ hx) y (List.mem_cons_of_mem _ hy)) h
theorem keysOk_spec (h : keysOk m = true) : (∀ x ∈ m, ∀ y ∈ m, x.1 = y.1 → x = y) ∧ (∀ x ∈ m, ∀ y ∈ m, x.2 = y.2 → x = y) := by
  have hs := (pairsOk_spec h).2
  have key : ∀ (i k : Nat) (x y : Nat × Nat), i < k → m[i]? = some x → m[k]? = some y → ¬ (x.1 = y.1 ∨ x.2 = y.2) := by
    intro i k x y hik hi hk hx
    have := hs i k x y hik hi hk (by rcases hx with hx | hx <;> simp [hx])
    simp at this
  have gen : ∀ x ∈ m, ∀ y ∈ m, (x.1 = y.1 ∨ x.2 = y.2) → x = y := by
    intro x hx y hy hxy
    obtain ⟨i, hi⟩ := List.mem_iff_getElem?.1 hx
    obtain ⟨k, hk⟩ := List.mem_iff_getElem?.1 hy
    rcases Nat.lt_trichotomy i k with h1 | h1 | h1
    · exact absurd hxy (key i k x y h1 hi hk)
    · subst h1
      rw [hi] at hk
      cases hk
      rfl
    · exact absurd (by rcases hxy with h | h <;> simp [h]) (key k i y x h1 hk hi)
  exact ⟨fun x hx y hy h => gen x hx y hy (.inl h), fun x hx y hy h => gen x hx y hy (.inr h)⟩
theorem invL_mem : ∀ {m : List (Nat × Nat)} {a b : Nat}, (b, a) ∈ invL m ↔ (a, b) ∈ m
  | [], a, b => by simp [invL]
  | (c, d) :: r, a, b => by
    simp only [invL, List.mem_cons, Prod.mk.injEq, invL_mem]
    constructor <;> rintro (⟨h1, h2⟩ | h) <;> first | exact .inl ⟨h2, h1⟩ | exact .inr h
theorem optA_inv (h : keysOk m = true) {a b : Nat} : optA (invL m) b = some a ↔ optA m a = some b := by
  obtain ⟨h1, h2⟩ := keysOk_spec h
  constructor
  · intro e
    exact optA_of_mem h1 (invL_mem.1 (optA_mem e))
  · intro e
    refine optA_of_mem ?_ (invL_mem.2 (optA_mem e))
    intro x hx y hy hxy
    obtain ⟨x1, x2⟩ := x
    obtain ⟨y1, y2⟩ := y
    have := h2 _ (invL_mem.1 hx) _ (invL_mem.1 hy) hxy
    simp only [Prod.mk.injEq] at this ⊢
    exact ⟨this.2, this.1⟩
/-- All objects get other names; those that have none are gone. -/
def renC (m : List (Nat × Nat)) (G : Ctx) : Ctx := fun k' => (optA (invL m) k').bind G
def renM (m : List (Nat × Nat)) (μ : Nat → Option Ob) : Nat → Option Ob := fun k' => (optA (invL m) k').bind fun k => (μ k).map (renOb m)
theorem renC_spec (h : keysOk m = true) : ∀ k k', optA m k = some k' → renC m G k' = G k := by
  intro k k' hk
  unfold renC
  rw [(optA_inv h).2 hk]
  rfl
theorem Sat.ren (hs : Sat W0 V0 Own V G w μ) (h : keysOk m = true) (hkey : ∀ k k' b, optA m k = some k' → Own.key k b → Own.key k' b) : Sat W0 V0 Own V (renC m G) w (renM m μ) where
  keep := hs.keep
  view := hs.view
  vle := hs.vle
  vnew := hs.vnew
  obs := fun k' ob e => by
    unfold renM at e
    cases hk : optA (invL m) k' with
    | none => rw [hk] at e; cases e
    | some k =>
      rw [hk] at e
      simp only [Option.bind_some, Option.map_eq_some_iff] at e
      obtain ⟨ob', e', rfl⟩ := e
      obtain ⟨s, hg, ho⟩ := hs.obs k ob' e'
      refine ⟨s, ?_, ho.ren (renC_spec h)⟩
      unfold renC
      rw [hk]
      exact hg
  dom := fun k' s e => by
    unfold renC at e
    unfold renM
    cases hk : optA (invL m) k' with
    | none => rw [hk] at e; cases e
    | some k =>
      rw [hk] at e
      obtain ⟨ob, e'⟩ := hs.dom k s e
      exact ⟨Go.AM.renOb m ob, by simp only [Option.bind_some, e', Option.map_some]⟩
  priv := fun k' s b e hb => by
    unfold renC at e
    cases hk : optA (invL m) k' with
    | none => rw [hk] at e; cases e
    | some k =>
      rw [hk] at e
      exact hs.priv k s b e hb
  inj := fun k1 k2 s1 s2 b e1 e2 h1 h2 => by
    unfold renC at e1 e2
    cases hk1 : optA (invL m) k1 with
    | none => rw [hk1] at e1; cases e1
    | some a1 =>
      cases hk2 : optA (invL m) k2 with
      | none => rw [hk2] at e2; cases e2
      | some a2 =>
        rw [hk1] at e1
        rw [hk2] at e2
        have := hs.inj a1 a2 s1 s2 b e1 e2 h1 h2
        subst this
        have q1 := (optA_inv h).1 hk1
        have q2 := (optA_inv h).1 hk2
        rw [q1] at q2
        cases q2
        rfl
  loc := fun k' s b e hb hlt => by
    unfold renC at e
    cases hk : optA (invL m) k' with
    | none => rw [hk] at e; cases e
    | some k =>
      rw [hk] at e
      exact hkey k k' b ((optA_inv h).1 hk) (hs.loc k s b e hb hlt)
end
/-! Pseudo operations. -/
def renA : List (Nat × Nat) → List (Nat × Ob) → List (Nat × Nat) → List (Nat × Ob)
  | _, _, [] => []
  | m, objs, (k, k') :: r => match optA objs k with
    | some o => (k', renOb m o) :: renA m objs r
    | none => renA m objs r
def keepR : List Nat → (Nat → AV) → List (Nat × Nat) → List (Nat × AV)
  | [], _, _ => []
  | i :: r, f, m => (i, ren m (f i)) :: keepR r f m
def St.mv (st : St) (rs : List Nat) (m : List (Nat × Nat)) : St := ⟨keepR rs st.reg m, renA m st.objs m⟩
theorem keepR_reg {f : Nat → AV} {m : List (Nat × Nat)} : ∀ {rs : List Nat} {i : Nat}, getA .dead (keepR rs f m) i = ren m (f i) ∨ getA .dead (keepR rs f m) i = .dead
  | [], i => .inr rfl
  | j :: r, i => by
    simp only [keepR, getA]
    cases hb : Nat.beq j i with
    | true =>
      left
      rw [Nat.eq_of_beq_eq_true hb]
      rfl
    | false => exact keepR_reg (rs := r)
theorem renA_ob {m : List (Nat × Nat)} {objs : List (Nat × Ob)} {k' : Nat} : ∀ {m' : List (Nat × Nat)}, (∀ x ∈ m', ∀ y ∈ m', x.2 = y.2 → x = y) → optA (renA m objs m') k' = (optA (invL m') k').bind fun k => (optA objs k).map (renOb m)
  | [], _ => rfl
  | (a, b) :: r, hu => by
    have ih := renA_ob (m := m) (objs := objs) (k' := k') (m' := r) fun x hx y hy => hu x (List.mem_cons_of_mem _ hx) y (List.mem_cons_of_mem _ hy)
    simp only [renA, invL, optA]
    cases hb : Nat.beq b k' with
    | true =>
      simp only [cond_true, Option.bind_some]
      cases ho : optA objs a with
      | some o => simp [optA, hb]
      | none =>
        simp only [Option.map_none]
        rw [ih]
        cases hk : optA (invL r) k' with
        | none => rfl
        | some a' =>
          have hm := invL_mem.1 (optA_mem hk)
          have := hu (a, b) List.mem_cons_self (a', k') (List.mem_cons_of_mem _ hm) (Nat.eq_of_beq_eq_true hb)
          simp only [Prod.mk.injEq] at this
          rw [← this.1]
          simp [ho]
    | false =>
      simp only [cond_false]
      cases ho : optA objs a with
      | some o => simp only [optA, hb, cond_false]; exact ih
      | none => exact ih
section
variable {W0 : World} {V0 : View} {Own : Fra} {P : Program} {N : Nat} {w : World} {V : View} {G : Ctx} {st : St} {a : Act}
theorem rel_mv {rs : List Nat} {m : List (Nat × Nat)} (h : keysOk m = true) (hkey : ∀ k k' b, optA m k = some k' → Own.key k b → Own.key k' b) (hcov : ∀ k s, Own.ctx k = some s → optA m k = some k) (hr : Rel W0 V0 Own N st a w V G) : Rel W0 V0 Own N (st.mv rs m) a w V (renC m G) := by
  refine ⟨?_, fun i => ?_, hr.size, hr.defers, fun k s e => ?_⟩
  · have := hr.sat.ren h hkey
    have e : (st.mv rs m).ob = renM m st.ob := by
      funext k'
      exact renA_ob (keysOk_spec h).2
    rw [e]
    exact this
  · rcases keepR_reg (f := st.reg) (m := m) (rs := rs) (i := i) with e | e
    · show Rep V (renC m G) (getA .dead (keepR rs st.reg m) i) _
      rw [e]
      exact (hr.regs i).ren (renC_spec h)
    · show Rep V (renC m G) (getA .dead (keepR rs st.reg m) i) _
      rw [e]
      simp only [Rep]
  · rw [renC_spec h k k (hcov k s e)]
    exact hr.ini k s e
end
end Go.AM
