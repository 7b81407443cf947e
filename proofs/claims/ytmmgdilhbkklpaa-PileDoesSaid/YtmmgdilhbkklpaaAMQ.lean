/- Regions of the abstract machine. -/
import Derived.Test.YtmmgdilhbkklpaaAMP
import Derived.Orders
namespace Go.AM
open Go
set_option linter.unusedVariables false
set_option linter.unusedSimpArgs false

inductive Item where
  | one (o : AOp)
  | grp (j : Nat) (want : Bool) (os : List AOp)
def flat : List Item → List (Option (Nat × Bool) × AOp)
  | [] => []
  | .one o :: r => (none, o) :: flat r
  | .grp j want os :: r => os.map (fun o => (some (j, want), o)) ++ flat r
def aopA (P : Program) (o : AOp) (st : St) (K : St → Acc → Prop) : Prop := ∃ v u acc, opR P o st.ev st.ob v u acc ∧ K ((st.puts u).setO o.dst v) acc
def aseq (P : Program) : List AOp → List Acc → St → (List Acc → St → Prop) → Prop
  | [], A, st, K => K A st
  | o :: l, A, st, K => aopA P o st fun st' acc => aseq P l (acc :: A) st' K
def killD : St → List AOp → St
  | st, [] => st
  | st, o :: l => killD (st.setO o.dst (.tup [])) l
def skipA : List AOp → List Acc → List Acc
  | [], A => A
  | _ :: l, A => skipA l (([], []) :: A)
def aitems (P : Program) : List Item → List Acc → St → (List Acc → St → Prop) → Prop
  | [], A, st, K => K A st
  | .one o :: r, A, st, K => aopA P o st fun st' acc => aitems P r (acc :: A) st' K
  | .grp j want os :: r, A, st, K => ∃ b x, (x = .bool b ∨ (x = .tup [] ∧ b = !want)) ∧ st.reg j = x ∧ (b = want → aseq P os A (st.set j x) fun A st => aitems P r A st K) ∧
      (b = !want → aitems P r (skipA os A) (killD (st.set j x) os) K)

/-! What was done, operation by operation. -/
structure Rec where
  exec : Bool
  v : AV
  u : List (Nat × Ob)
  acc : Acc
def Rec.skip : Rec := ⟨false, .tup [], [], ([], [])⟩
def St.step (st : St) (x : AOp) (r : Rec) : St := (st.puts r.u).setO x.dst r.v
abbrev GOp := Option (Nat × Bool) × AOp
def StepOk (P : Program) (st : St) (g : GOp) (r : Rec) : Prop :=
  match g.1 with
  | none => r.exec = true ∧ opR P g.2 st.ev st.ob r.v r.u r.acc
  | some (j, want) => ∃ b, (st.reg j = .bool b ∨ (st.reg j = .tup [] ∧ b = !want)) ∧ ((b = want ∧ r.exec = true ∧ opR P g.2 st.ev st.ob r.v r.u r.acc) ∨ (b ≠ want ∧ r = Rec.skip))
def TraceOk (P : Program) : List GOp → List Rec → St → Prop
  | [], [], _ => True
  | g :: l, r :: rs, st => StepOk P st g r ∧ TraceOk P l rs (st.step g.2 r)
  | _, _, _ => False
def runT : List GOp → List Rec → St → St
  | g :: l, r :: rs, st => runT l rs (st.step g.2 r)
  | _, _, st => st
structure Same (a b : St) : Prop where
  reg : ∀ i, a.reg i = b.reg i
  ob : ∀ k, a.ob k = b.ob k
theorem Same.refl (a : St) : Same a a := ⟨fun _ => rfl, fun _ => rfl⟩
theorem Same.ev {a b : St} (h : Same a b) : a.ev = b.ev := by
  funext x
  cases x with
  | r i => exact h.reg i
  | c v => rfl
theorem Same.obs {a b : St} (h : Same a b) : a.ob = b.ob := funext h.ob
theorem Same.set {a b : St} (h : Same a b) (i : Nat) (v : AV) : Same (a.set i v) (b.set i v) := ⟨fun j => by rw [St.reg_set, St.reg_set, h.reg], fun k => by simp [h.ob]⟩
theorem Same.put {a b : St} (h : Same a b) (i : Nat) (v : Ob) : Same (a.put i v) (b.put i v) := ⟨fun j => by simp [h.reg], fun k => by rw [St.ob_put, St.ob_put, h.ob]⟩
theorem Same.puts {a b : St} (h : Same a b) : ∀ u, Same (a.puts u) (b.puts u) := by
  intro u
  induction u generalizing a b with
  | nil => exact h
  | cons x u ih => exact ih (h.put _ _)
theorem Same.setO {a b : St} (h : Same a b) (d : Option Nat) (v : AV) : Same (a.setO d v) (b.setO d v) := by
  cases d with
  | none => exact h
  | some i => exact h.set i v
theorem Same.step {a b : St} (h : Same a b) (x : AOp) (r : Rec) : Same (a.step x r) (b.step x r) := (h.puts _).setO _ _
theorem Same.set_self {st0 st : St} (h : Same st0 st) {j : Nat} {v : AV} (hv : st.reg j = v) : Same st0 (st.set j v) :=
  ⟨fun i => by
    rw [St.reg_set, h.reg]
    split
    · rename_i e; rw [e, hv]
    · rfl, fun k => by simp [h.ob]⟩
def accsOf (rs : List Rec) (A : List Acc) : List Acc := (rs.map (·.acc)).reverse ++ A
theorem accsOf_cons (r : Rec) (rs : List Rec) (A : List Acc) : accsOf (r :: rs) A = accsOf rs (r.acc :: A) := by simp [accsOf]
theorem accsOf_append (r1 r2 : List Rec) (A : List Acc) : accsOf (r1 ++ r2) A = accsOf r2 (accsOf r1 A) := by simp [accsOf]
theorem traceOk_append {P : Program} : ∀ {l1 l2 : List GOp} {r1 r2 : List Rec} {st : St}, TraceOk P l1 r1 st → TraceOk P l2 r2 (runT l1 r1 st) → TraceOk P (l1 ++ l2) (r1 ++ r2) st ∧ runT (l1 ++ l2) (r1 ++ r2) st = runT l2 r2 (runT l1 r1 st)
  | [], l2, [], r2, st, _, h => ⟨h, rfl⟩
  | [], l2, _ :: _, r2, st, h, _ => h.elim
  | _ :: _, l2, [], r2, st, h, _ => h.elim
  | g :: l1, l2, r :: r1, r2, st, h, h' => by
    have := traceOk_append h.2 h'
    exact ⟨⟨h.1, this.1⟩, this.2⟩
theorem aseq_trace {P : Program} {j : Nat} {want : Bool} : ∀ {os : List AOp} {A : List Acc} {st st0 : St} {K : List Acc → St → Prop}, aseq P os A st K → Same st0 st → (∀ o ∈ os, o.dst ≠ some j) → st.reg j = .bool want →
    ∃ rs st', TraceOk P (os.map fun o => (some (j, want), o)) rs st0 ∧ Same (runT (os.map fun o => (some (j, want), o)) rs st0) st' ∧ K (accsOf rs A) st'
  | [], A, st, st0, K, h, hs, _, _ => ⟨[], st, trivial, hs, h⟩
  | o :: os, A, st, st0, K, h, hs, hd, hj => by
    obtain ⟨v, u, acc, h1, h2⟩ := h
    have hd0 : o.dst ≠ some j := hd o List.mem_cons_self
    have hreg : ((st.puts u).setO o.dst v).reg j = .bool want := by
      have hp : ∀ (u : List (Nat × Ob)) (st : St), (st.puts u).reg j = st.reg j := by
        intro u
        induction u with
        | nil => intro st; rfl
        | cons x u ih => intro st; exact ih _
      cases hdo : o.dst with
      | none => simp only [St.setO]; rw [hp, hj]
      | some d =>
        simp only [St.setO]
        rw [St.reg_set, if_neg (fun e => hd0 (by rw [hdo, e])), hp, hj]
    obtain ⟨rs, st', t1, t2, t3⟩ := aseq_trace h2 (st0 := st0.step o ⟨true, v, u, acc⟩) (hs.step o ⟨true, v, u, acc⟩) (fun o ho => hd o (List.mem_cons_of_mem _ ho)) hreg
    refine ⟨⟨true, v, u, acc⟩ :: rs, st', ⟨?_, t1⟩, t2, by rw [accsOf_cons]; exact t3⟩
    refine ⟨want, .inl (by rw [hs.reg]; exact hj), .inl ⟨rfl, rfl, ?_⟩⟩
    rw [hs.ev, hs.obs]
    exact h1
theorem skip_trace {P : Program} {j : Nat} {want : Bool} : ∀ {os : List AOp} {A : List Acc} {st st0 : St}, Same st0 st → (∀ o ∈ os, o.dst ≠ some j) → (st.reg j = .bool (!want) ∨ st.reg j = .tup []) →
    ∃ rs, TraceOk P (os.map fun o => (some (j, want), o)) rs st0 ∧ Same (runT (os.map fun o => (some (j, want), o)) rs st0) (killD st os) ∧ accsOf rs A = skipA os A
  | [], A, st, st0, hs, _, _ => ⟨[], trivial, hs, rfl⟩
  | o :: os, A, st, st0, hs, hd, hj => by
    have hd0 : o.dst ≠ some j := hd o List.mem_cons_self
    have hreg : (st.setO o.dst (.tup [])).reg j = .bool (!want) ∨ (st.setO o.dst (.tup [])).reg j = .tup [] := by
      cases hdo : o.dst with
      | none => simp only [St.setO]; exact hj
      | some d =>
        simp only [St.setO]
        rw [St.reg_set, if_neg (fun e => hd0 (by rw [hdo, e]))]
        exact hj
    obtain ⟨rs, t1, t2, t3⟩ := skip_trace (A := ([], []) :: A) (st0 := st0.step o Rec.skip) (st := st.setO o.dst (.tup [])) (hs.step o Rec.skip) (fun o ho => hd o (List.mem_cons_of_mem _ ho)) hreg
    refine ⟨Rec.skip :: rs, ⟨?_, t1⟩, t2, by rw [accsOf_cons]; exact t3⟩
    exact ⟨!want, hj.imp (fun hj => by rw [hs.reg]; exact hj) (fun hj => ⟨by rw [hs.reg]; exact hj, rfl⟩), .inr ⟨by cases want <;> simp, rfl⟩⟩
/-- No group writes to the register that guards it. -/
def grpOk : List Item → Bool
  | [] => true
  | .one _ :: r => grpOk r
  | .grp j _ os :: r => os.all (fun o => decide (o.dst ≠ some j)) && grpOk r
theorem aitems_trace {P : Program} : ∀ {is : List Item} {A : List Acc} {st st0 : St} {K : List Acc → St → Prop}, aitems P is A st K → Same st0 st → grpOk is = true →
    ∃ rs st', TraceOk P (flat is) rs st0 ∧ Same (runT (flat is) rs st0) st' ∧ K (accsOf rs A) st'
  | [], A, st, st0, K, h, hs, _ => ⟨[], st, trivial, hs, h⟩
  | .one o :: is, A, st, st0, K, h, hs, hg => by
    obtain ⟨v, u, acc, h1, h2⟩ := h
    obtain ⟨rs, st', t1, t2, t3⟩ := aitems_trace h2 (st0 := st0.step o ⟨true, v, u, acc⟩) (hs.step o ⟨true, v, u, acc⟩) hg
    refine ⟨⟨true, v, u, acc⟩ :: rs, st', ⟨⟨rfl, ?_⟩, t1⟩, t2, by rw [accsOf_cons]; exact t3⟩
    rw [hs.ev, hs.obs]
    exact h1
  | .grp j want os :: is, A, st, st0, K, h, hs, hg => by
    obtain ⟨b, x, hx, hb, h1, h2⟩ := h
    simp only [grpOk, Bool.and_eq_true, List.all_eq_true, decide_eq_true_eq] at hg
    by_cases hw : b = want
    · have hxb : x = .bool want := by
        rcases hx with rfl | ⟨_, e⟩
        · rw [hw]
        · rw [hw] at e; cases want <;> cases e
      obtain ⟨rs1, st1, a1, a2, a3⟩ := aseq_trace (j := j) (want := want) (h1 hw) (st0 := st0) (hs.set_self hb) hg.1 (by rw [St.reg_set, if_pos rfl, hxb])
      obtain ⟨rs2, st2, b1, b2, b3⟩ := aitems_trace a3 a2 hg.2
      obtain ⟨t1, t2⟩ := traceOk_append a1 b1
      exact ⟨rs1 ++ rs2, st2, t1, by rw [flat, t2]; exact b2, by rw [accsOf_append]; exact b3⟩
    · have hw' : b = !want := by cases b <;> cases want <;> simp at hw ⊢
      obtain ⟨rs1, a1, a2, a3⟩ := skip_trace (P := P) (j := j) (want := want) (os := os) (A := A) (st0 := st0) (hs.set_self hb) hg.1 (by rw [St.reg_set, if_pos rfl]; rcases hx with rfl | ⟨rfl, _⟩; exact .inl (by rw [hw']); exact .inr rfl)
      obtain ⟨rs2, st2, b1, b2, b3⟩ := aitems_trace (h2 hw') a2 hg.2
      obtain ⟨t1, t2⟩ := traceOk_append a1 b1
      exact ⟨rs1 ++ rs2, st2, t1, by rw [flat, t2]; exact b2, by rw [accsOf_append, a3]; exact b3⟩
end Go.AM
