/- Objects that get other names; objects that are written no more; calls that hand objects on. -/
import Derived.Test.YtmmgdilhbkklpaaAMU
namespace Go.AM
open Go
set_option linter.unusedVariables false
set_option linter.unusedSimpArgs false
/-! Pseudo operations. -/
def renA : List (Nat × Nat) → List (Nat × Ob) → List (Nat × Nat) → List (Nat × Ob)
  | _, _, [] => []
  | m, objs, (k, k') :: r => match optA objs k with
    | some o => (k', renOb m o) :: renA m objs r
    | none => renA m objs r
def keepR : List Nat → (Nat → AV) → List (Nat × Nat) → List (Nat × AV)
  | [], _, _ => []
  | i :: r, f, m => (i, ren m (f i)) :: keepR r f m
def St.mv (st : St) (rs : List Nat) (m : List (Nat × Nat)) : St := ⟨keepR rs st.reg m, renA m st.objs m⟩
theorem keepR_reg {f : Nat → AV} {m : List (Nat × Nat)} : ∀ {rs : List Nat} {i : Nat}, getA .dead (keepR rs f m) i = ren m (f i) ∨ getA .dead (keepR rs f m) i = .dead
  | [], i => .inr rfl
  | j :: r, i => by
    simp only [keepR, getA]
    cases hb : Nat.beq j i with
    | true =>
      left
      rw [Nat.eq_of_beq_eq_true hb]
      rfl
    | false => exact keepR_reg (rs := r)
theorem renA_ob {m : List (Nat × Nat)} {objs : List (Nat × Ob)} {k' : Nat} : ∀ {m' : List (Nat × Nat)}, (∀ x ∈ m', ∀ y ∈ m', x.2 = y.2 → x = y) → optA (renA m objs m') k' = (optA (invL m') k').bind fun k => (optA objs k).map (renOb m)
  | [], _ => rfl
  | (a, b) :: r, hu => by
    have ih := renA_ob (m := m) (objs := objs) (k' := k') (m' := r) fun x hx y hy => hu x (List.mem_cons_of_mem _ hx) y (List.mem_cons_of_mem _ hy)
    simp only [renA, invL, optA]
    cases hb : Nat.beq b k' with
    | true =>
      simp only [cond_true, Option.bind_some]
      cases ho : optA objs a with
      | some o => simp [optA, hb]
      | none =>
        simp only [Option.map_none]
        rw [ih]
        cases hk : optA (invL r) k' with
        | none => rfl
        | some a' =>
          have hm := invL_mem.1 (optA_mem hk)
          have := hu (a, b) List.mem_cons_self (a', k') (List.mem_cons_of_mem _ hm) (Nat.eq_of_beq_eq_true hb)
          simp only [Prod.mk.injEq] at this
          rw [← this.1]
          simp [ho]
    | false =>
      simp only [cond_false]
      cases ho : optA objs a with
      | some o => simp only [optA, hb, cond_false]; exact ih
      | none => exact ih
section
variable {W0 : World} {V0 : View} {Own : Fra} {P : Program} {N : Nat} {w : World} {V : View} {G : Ctx} {st : St} {a : Act}
theorem rel_mv {rs : List Nat} {m : List (Nat × Nat)} (h : keysOk m = true) (hkey : ∀ k k' b, optA m k = some k' → Own.key k b → Own.key k' b) (hcov : ∀ k s, Own.ctx k = some s → optA m k = some k) (hr : Rel W0 V0 Own N st a w V G) : Rel W0 V0 Own N (st.mv rs m) a w V (renC m G) := by
  refine ⟨?_, fun i => ?_, hr.size, hr.defers, fun k s e => ?_⟩
  · have := hr.sat.ren h hkey
    have e : (st.mv rs m).ob = renM m st.ob := by
      funext k'
      exact renA_ob (keysOk_spec h).2
    rw [e]
    exact this
  · rcases keepR_reg (f := st.reg) (m := m) (rs := rs) (i := i) with e | e
    · show Rep V (renC m G) (getA .dead (keepR rs st.reg m) i) _
      rw [e]
      exact (hr.regs i).ren (renC_spec h)
    · show Rep V (renC m G) (getA .dead (keepR rs st.reg m) i) _
      rw [e]
      simp only [Rep]
  · rw [renC_spec h k k (hcov k s e)]
    exact hr.ini k s e
end
end Go.AM
