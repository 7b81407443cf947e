/- The abstract machine: its operations, its code, and when a state of it stands for a state of the program. -/
import Derived.Test.YtmmgdilhbkklpaaAMB
namespace Go.AM
open Go
set_option linter.unusedVariables false

/-- What a function may write to: blocks that were there, and the keys of what lies in them. -/
structure Fra where
  own : Nat → Prop
  key : Nat → Nat → Prop
  ctx : Ctx
structure Keep (W0 : World) (Own : Fra) (w : World) : Prop where
  os : w.os = W0.os
  tape : w.tape = W0.tape
  output : w.output = W0.output
  size : W0.heap.size ≤ w.heap.size
  block : ∀ b, b < W0.heap.size → ¬ Own.own b → w.heap[b]? = W0.heap[b]?

def ObOk (V : View) (G : Ctx) (w : World) : Sh → Ob → Prop
  | .box b, .box cs => ∃ (us : List Value) (T : TypeId), w.heap[b]? = some (.cells us.toArray T (0, 0)) ∧ RepL V G cs us ∧ ∀ u ∈ us, u.oneCell' = true
  | .box b, .pbox cs => ∃ (us : List Value) (T : TypeId), w.heap[b]? = some (.cells us.toArray T (0, 0)) ∧ RepPL V cs us ∧ ∀ u ∈ us, u.oneCell' = true
  | .arr ver esz n loc, .arr ver' esz' xs => ver = ver' ∧ esz = esz' ∧ n = xs.length ∧ (loc = none → xs = []) ∧
      ∀ b o tot, loc = some (b, o, tot) → ∃ (us : List Value) (T : TypeId), w.heap[b]? = some (.cells us.toArray T (0, 0)) ∧ us.length = tot ∧ o + n * esz ≤ tot ∧ RepR V (fun i => us[i]?) esz o xs
  | _, _ => False

/-- What is so of memory while a function runs that began at W0 with the view V0, and may write to the blocks of Own, and to new ones. -/
structure Sat (W0 : World) (V0 : View) (Own : Fra) (V : View) (G : Ctx) (w : World) (objs : Nat → Option Ob) : Prop where
  keep : Keep W0 Own w
  view : ∀ b o v, V b o = some v → w.cell? ⟨b, o, none⟩ = some v
  vle : V0.le V
  vnew : ∀ b o, b < W0.heap.size → V b o = V0 b o
  obs : ∀ k ob, objs k = some ob → ∃ s, G k = some s ∧ ObOk V G w s ob
  dom : ∀ k s, G k = some s → ∃ ob, objs k = some ob
  priv : ∀ k s b, G k = some s → s.block = some b → b < w.heap.size ∧ (Own.own b ∨ W0.heap.size ≤ b) ∧ ∀ o, V b o = none
  inj : ∀ k k' s s' b, G k = some s → G k' = some s' → s.block = some b → s'.block = some b → k = k'
  loc : ∀ k s b, G k = some s → s.block = some b → b < W0.heap.size → Own.key k b

def Ctx.owns (G : Ctx) : Fra := ⟨fun b => ∃ k s, G k = some s ∧ s.block = some b, fun k b => ∃ s, G k = some s ∧ s.block = some b, G⟩
def RepRes (V : View) (G : Ctx) (res : List AV) (v : Value) : Prop :=
  match res with
  | [x] => Rep V G x v
  | xs => ∃ us : List Value, v = .tuple us.toArray ∧ RepL V G xs us
def resA : List AV → AV
  | [x] => x
  | xs => .tup xs
theorem RepRes.rep {V : View} {G : Ctx} {res : List AV} {v : Value} (h : RepRes V G res v) : Rep V G (resA res) v := by
  match res, h with
  | [], h => simpa only [resA, Rep, RepRes] using h
  | [x], h => exact h
  | x :: y :: r, h => simpa only [resA, Rep, RepRes] using h

def okFn (P : Program) (f : Nat) : Bool :=
  match P.funcs[f]? with
  | some fn => fn.body.isSome && fn.name != "runtime.NumGoroutine"
  | none => false
/-- A function's contract: it is there, and called with such values, and such objects, it returns, and what it returns, and what the objects are then (and further ones), is as R says. -/
def Ctr (P : Program) (f : Nat) (args : List AV) (obs : List Ob) (R : List AV → List Ob → Prop) : Prop :=
  okFn P f = true ∧ ∀ (V : View) (G : Ctx) (w : World) (vs : List Value), Sat w V G.owns V G w (fun k => obs[k]?) → RepL V G args vs →
    Calls P f vs.toArray w fun e w' => ∃ V' G' v res obs', R res obs' ∧ e = .returned v ∧ RepRes V' G' res v ∧ G.le G' ∧ Sat w V G.owns V' G' w' (fun k => obs'[k]?)

/-! The state. -/
def getA {α : Type} (d : α) : List (Nat × α) → Nat → α
  | [], _ => d
  | (j, v) :: r, i => bif Nat.beq j i then v else getA d r i
def delA {α : Type} : List (Nat × α) → Nat → List (Nat × α)
  | [], _ => []
  | (j, v) :: r, i => bif Nat.beq j i then delA r i else (j, v) :: delA r i
def mapA {α β : Type} (f : α → β) : List (Nat × α) → List (Nat × β)
  | [] => []
  | (j, v) :: r => (j, f v) :: mapA f r
structure St where
  regs : List (Nat × AV)
  objs : List (Nat × Ob)
inductive Arg where
  | r (i : Nat)
  | c (v : AV)
def optA {α : Type} : List (Nat × α) → Nat → Option α
  | [], _ => none
  | (j, v) :: r, i => bif Nat.beq j i then some v else optA r i
def St.reg (st : St) (i : Nat) : AV := getA .dead st.regs i
def St.set (st : St) (i : Nat) (v : AV) : St := ⟨(i, v) :: delA st.regs i, st.objs⟩
def St.ob (st : St) (k : Nat) : Option Ob := optA st.objs k
def St.put (st : St) (k : Nat) (o : Ob) : St := ⟨st.regs, (k, o) :: delA st.objs k⟩
def St.ev (st : St) : Arg → AV
  | .r i => st.reg i
  | .c v => v
def St.setO (st : St) (d : Option Nat) (v : AV) : St := match d with | some i => st.set i v | none => st

theorem beq_ne {i j : Nat} (h : i ≠ j) : Nat.beq i j = false := by
  cases hh : Nat.beq i j with
  | false => rfl
  | true => exact absurd (Nat.eq_of_beq_eq_true hh) h
theorem getA_delA {α : Type} (d : α) : ∀ (r : List (Nat × α)) (i j : Nat), j ≠ i → getA d (delA r i) j = getA d r j
  | [], i, j, h => rfl
  | (k, v) :: r, i, j, h => by
    by_cases h1 : k = i
    · subst h1
      simp only [delA, getA, Nat.beq_refl, cond_true, beq_ne (Ne.symm h), cond_false]
      exact getA_delA d r k j h
    · simp only [delA, getA, beq_ne h1, cond_false]
      rw [getA_delA d r i j h]
theorem optA_delA {α : Type} : ∀ (r : List (Nat × α)) (i j : Nat), j ≠ i → optA (delA r i) j = optA r j
  | [], i, j, h => rfl
  | (k, v) :: r, i, j, h => by
    by_cases h1 : k = i
    · subst h1
      simp only [delA, optA, Nat.beq_refl, cond_true, beq_ne (Ne.symm h), cond_false]
      exact optA_delA r k j h
    · simp only [delA, optA, beq_ne h1, cond_false]
      rw [optA_delA r i j h]
theorem St.reg_set (st : St) (i j : Nat) (v : AV) : (st.set i v).reg j = if j = i then v else st.reg j := by
  unfold St.set St.reg
  by_cases h : j = i
  · subst h; simp [getA]
  · rw [if_neg h]
    simp only [getA, beq_ne (Ne.symm h), cond_false]
    exact getA_delA _ _ _ _ h
theorem St.ob_put (st : St) (i j : Nat) (v : Ob) : (st.put i v).ob j = if j = i then some v else st.ob j := by
  unfold St.put St.ob
  by_cases h : j = i
  · subst h; simp [optA]
  · rw [if_neg h]
    simp only [optA, beq_ne (Ne.symm h), cond_false]
    exact optA_delA _ _ _ h
@[simp] theorem St.ob_set (st : St) (i j : Nat) (v : AV) : (st.set i v).ob j = st.ob j := rfl
@[simp] theorem St.reg_put (st : St) (i j : Nat) (v : Ob) : (st.put i v).reg j = st.reg j := rfl
end Go.AM
