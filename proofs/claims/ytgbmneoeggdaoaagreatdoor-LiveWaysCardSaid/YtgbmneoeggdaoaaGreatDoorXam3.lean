/- Regions of the abstract machine. -/
import Derived.Test.YtgbmneoeggdaoaaGreatDoorXam2
import Derived.Orders
import Derived.OrdersIn
import Derived.ControlIn
import Derived.RangeFuncIn
import Derived.RangeFuncSeq
import Derived.RangeFuncWrites
import Derived.Below
namespace Go.AM
open Go
set_option linter.unusedVariables false
set_option linter.unusedSimpArgs false
inductive Item where
 | one (o : AOp)
 | grp (j : Nat) (want : Bool) (os : List AOp)
def flat : List Item → List (Option (Nat × Bool) × AOp)
 | [] => []
 | .one o :: r => (none, o) :: flat r
 | .grp j want os :: r => os.map (fun o => (some (j, want), o)) ++ flat r
def aopA (P : Program) (o : AOp) (st : St) (K : St → Acc → Prop) : Prop := ∃ v u acc, opR P o st.ev st.ob v u acc ∧ K ((st.puts u).setO o.dst v) acc
def aseq (P : Program) : List AOp → List Acc → St → (List Acc → St → Prop) → Prop
 | [], A, st, K => K A st
 | o :: l, A, st, K => aopA P o st fun st' acc => aseq P l (acc :: A) st' K
def killD : St → List AOp → St
 | st, [] => st
 | st, o :: l => killD (st.setO o.dst (.tup [])) l
def skipA : List AOp → List Acc → List Acc
 | [], A => A
 | _ :: l, A => skipA l (([], []) :: A)
def aitems (P : Program) : List Item → List Acc → St → (List Acc → St → Prop) → Prop
 | [], A, st, K => K A st
 | .one o :: r, A, st, K => aopA P o st fun st' acc => aitems P r (acc :: A) st' K
 | .grp j want os :: r, A, st, K => ∃ b x, (x = .bool b ∨ (x = .tup [] ∧ b = !want)) ∧ st.reg j = x ∧ (b = want → aseq P os A (st.set j x) fun A st => aitems P r A st K) ∧
   (b = !want → aitems P r (skipA os A) (killD (st.set j x) os) K)
/-! What was done, operation by operation. -/
structure Rec where
 exec : Bool
 v : AV
 u : List (Nat × Ob)
 acc : Acc
def Rec.skip : Rec := ⟨false, .tup [], [], ([], [])⟩
def St.step (st : St) (x : AOp) (r : Rec) : St := (st.puts r.u).setO x.dst r.v
abbrev GOp := Option (Nat × Bool) × AOp
def StepOk (P : Program) (st : St) (g : GOp) (r : Rec) : Prop :=
 match g.1 with
 | none => r.exec = true ∧ opR P g.2 st.ev st.ob r.v r.u r.acc
 | some (j, want) => ∃ b, (st.reg j = .bool b ∨ (st.reg j = .tup [] ∧ b = !want)) ∧ ((b = want ∧ r.exec = true ∧ opR P g.2 st.ev st.ob r.v r.u r.acc) ∨ (b ≠ want ∧ r = Rec.skip))
def TraceOk (P : Program) : List GOp → List Rec → St → Prop
 | [], [], _ => True
 | g :: l, r :: rs, st => StepOk P st g r ∧ TraceOk P l rs (st.step g.2 r)
 | _, _, _ => False
def runT : List GOp → List Rec → St → St
 | g :: l, r :: rs, st => runT l rs (st.step g.2 r)
 | _, _, st => st
structure Same (a b : St) : Prop where
 reg : ∀ i, a.reg i = b.reg i
 ob : ∀ k, a.ob k = b.ob k
theorem Same.refl (a : St) : Same a a := ⟨fun _ => rfl, fun _ => rfl⟩
theorem Same.ev {a b : St} (h : Same a b) : a.ev = b.ev := by
 funext x
 cases x with
 | r i => exact h.reg i
 | c v => rfl
 | g i => rfl
theorem Same.obs {a b : St} (h : Same a b) : a.ob = b.ob := funext h.ob
theorem Same.set {a b : St} (h : Same a b) (i : Nat) (v : AV) : Same (a.set i v) (b.set i v) := ⟨fun j => by rw [St.reg_set, St.reg_set, h.reg], fun k => by simp [h.ob]⟩
theorem Same.put {a b : St} (h : Same a b) (i : Nat) (v : Ob) : Same (a.put i v) (b.put i v) := ⟨fun j => by simp [h.reg], fun k => by rw [St.ob_put, St.ob_put, h.ob]⟩
theorem Same.puts {a b : St} (h : Same a b) : ∀ u, Same (a.puts u) (b.puts u) := by
 intro u
 induction u generalizing a b with
 | nil => exact h
 | cons x u ih => exact ih (h.put _ _)
theorem Same.setO {a b : St} (h : Same a b) (d : Option Nat) (v : AV) : Same (a.setO d v) (b.setO d v) := by
 cases d with
 | none => exact h
 | some i => exact h.set i v
theorem Same.step {a b : St} (h : Same a b) (x : AOp) (r : Rec) : Same (a.step x r) (b.step x r) := (h.puts _).setO _ _
theorem Same.set_self {st0 st : St} (h : Same st0 st) {j : Nat} {v : AV} (hv : st.reg j = v) : Same st0 (st.set j v) :=
 ⟨fun i => by
  rw [St.reg_set, h.reg]
  split
  ·rename_i e; rw [e, hv]
  ·rfl, fun k => by simp [h.ob]⟩
def accsOf (rs : List Rec) (A : List Acc) : List Acc := (rs.map (·.acc)).reverse ++ A
theorem accsOf_cons (r : Rec) (rs : List Rec) (A : List Acc) : accsOf (r :: rs) A = accsOf rs (r.acc :: A) := by simp [accsOf]
theorem accsOf_append (r1 r2 : List Rec) (A : List Acc) : accsOf (r1 ++ r2) A = accsOf r2 (accsOf r1 A) := by simp [accsOf]
theorem traceOk_append {P : Program} : ∀ {l1 l2 : List GOp} {r1 r2 : List Rec} {st : St}, TraceOk P l1 r1 st → TraceOk P l2 r2 (runT l1 r1 st) → TraceOk P (l1 ++ l2) (r1 ++ r2) st ∧ runT (l1 ++ l2) (r1 ++ r2) st = runT l2 r2 (runT l1 r1 st)
 | [], l2, [], r2, st, _, h => ⟨h, rfl⟩
 | [], l2, _ :: _, r2, st, h, _ => h.elim
 | _ :: _, l2, [], r2, st, h, _ => h.elim
 | g :: l1, l2, r :: r1, r2, st, h, h' => by
  have := traceOk_append h.2 h'
  exact ⟨⟨h.1, this.1⟩, this.2⟩
theorem aseq_trace {P : Program} {j : Nat} {want : Bool} : ∀ {os : List AOp} {A : List Acc} {st st0 : St} {K : List Acc → St → Prop}, aseq P os A st K → Same st0 st → (∀ o ∈ os, o.dst ≠ some j) → st.reg j = .bool want →
  ∃ rs st', TraceOk P (os.map fun o => (some (j, want), o)) rs st0 ∧ Same (runT (os.map fun o => (some (j, want), o)) rs st0) st' ∧ K (accsOf rs A) st'
 | [], A, st, st0, K, h, hs, _, _ => ⟨[], st, trivial, hs, h⟩
 | o :: os, A, st, st0, K, h, hs, hd, hj => by
  obtain ⟨v, u, acc, h1, h2⟩ := h
  have hd0 : o.dst ≠ some j := hd o List.mem_cons_self
  have hreg : ((st.puts u).setO o.dst v).reg j = .bool want := by
   have hp : ∀ (u : List (Nat × Ob)) (st : St), (st.puts u).reg j = st.reg j := by
    intro u
    induction u with
    | nil => intro st; rfl
    | cons x u ih => intro st; exact ih _
   cases hdo : o.dst with
   | none => simp only [St.setO]; rw [hp, hj]
   | some d =>
    simp only [St.setO]
    rw [St.reg_set, if_neg (fun e => hd0 (by rw [hdo, e])), hp, hj]
  obtain ⟨rs, st', t1, t2, t3⟩ := aseq_trace h2 (st0 := st0.step o ⟨true, v, u, acc⟩) (hs.step o ⟨true, v, u, acc⟩) (fun o ho => hd o (List.mem_cons_of_mem _ ho)) hreg
  refine ⟨⟨true, v, u, acc⟩ :: rs, st', ⟨?_, t1⟩, t2, by rw [accsOf_cons]; exact t3⟩
  refine ⟨want, .inl (by rw [hs.reg]; exact hj), .inl ⟨rfl, rfl, ?_⟩⟩
  rw [hs.ev, hs.obs]
  exact h1
theorem skip_trace {P : Program} {j : Nat} {want : Bool} : ∀ {os : List AOp} {A : List Acc} {st st0 : St}, Same st0 st → (∀ o ∈ os, o.dst ≠ some j) → (st.reg j = .bool (!want) ∨ st.reg j = .tup []) →
  ∃ rs, TraceOk P (os.map fun o => (some (j, want), o)) rs st0 ∧ Same (runT (os.map fun o => (some (j, want), o)) rs st0) (killD st os) ∧ accsOf rs A = skipA os A
 | [], A, st, st0, hs, _, _ => ⟨[], trivial, hs, rfl⟩
 | o :: os, A, st, st0, hs, hd, hj => by
  have hd0 : o.dst ≠ some j := hd o List.mem_cons_self
  have hreg : (st.setO o.dst (.tup [])).reg j = .bool (!want) ∨ (st.setO o.dst (.tup [])).reg j = .tup [] := by
   cases hdo : o.dst with
   | none => simp only [St.setO]; exact hj
   | some d =>
    simp only [St.setO]
    rw [St.reg_set, if_neg (fun e => hd0 (by rw [hdo, e]))]
    exact hj
  obtain ⟨rs, t1, t2, t3⟩ := skip_trace (A := ([], []) :: A) (st0 := st0.step o Rec.skip) (st := st.setO o.dst (.tup [])) (hs.step o Rec.skip) (fun o ho => hd o (List.mem_cons_of_mem _ ho)) hreg
  refine ⟨Rec.skip :: rs, ⟨?_, t1⟩, t2, by rw [accsOf_cons]; exact t3⟩
  exact ⟨!want, hj.imp (fun hj => by rw [hs.reg]; exact hj) (fun hj => ⟨by rw [hs.reg]; exact hj, rfl⟩), .inr ⟨by cases want <;> simp, rfl⟩⟩
/-- No group writes to the register that guards it. -/
def grpOk : List Item → Bool
 | [] => true
 | .one _ :: r => grpOk r
 | .grp j _ os :: r => os.all (fun o => decide (o.dst ≠ some j)) && grpOk r
theorem aitems_trace {P : Program} : ∀ {is : List Item} {A : List Acc} {st st0 : St} {K : List Acc → St → Prop}, aitems P is A st K → Same st0 st → grpOk is = true →
  ∃ rs st', TraceOk P (flat is) rs st0 ∧ Same (runT (flat is) rs st0) st' ∧ K (accsOf rs A) st'
 | [], A, st, st0, K, h, hs, _ => ⟨[], st, trivial, hs, h⟩
 | .one o :: is, A, st, st0, K, h, hs, hg => by
  obtain ⟨v, u, acc, h1, h2⟩ := h
  obtain ⟨rs, st', t1, t2, t3⟩ := aitems_trace h2 (st0 := st0.step o ⟨true, v, u, acc⟩) (hs.step o ⟨true, v, u, acc⟩) hg
  refine ⟨⟨true, v, u, acc⟩ :: rs, st', ⟨⟨rfl, ?_⟩, t1⟩, t2, by rw [accsOf_cons]; exact t3⟩
  rw [hs.ev, hs.obs]
  exact h1
 | .grp j want os :: is, A, st, st0, K, h, hs, hg => by
  obtain ⟨b, x, hx, hb, h1, h2⟩ := h
  simp only [grpOk, Bool.and_eq_true, List.all_eq_true, decide_eq_true_eq] at hg
  by_cases hw : b = want
  ·have hxb : x = .bool want := by
    rcases hx with rfl | ⟨_, e⟩
    ·rw [hw]
    ·rw [hw] at e; cases want <;> cases e
   obtain ⟨rs1, st1, a1, a2, a3⟩ := aseq_trace (j := j) (want := want) (h1 hw) (st0 := st0) (hs.set_self hb) hg.1 (by rw [St.reg_set, if_pos rfl, hxb])
   obtain ⟨rs2, st2, b1, b2, b3⟩ := aitems_trace a3 a2 hg.2
   obtain ⟨t1, t2⟩ := traceOk_append a1 b1
   exact ⟨rs1 ++ rs2, st2, t1, by rw [flat, t2]; exact b2, by rw [accsOf_append]; exact b3⟩
  ·have hw' : b = !want := by cases b <;> cases want <;> simp at hw ⊢
   obtain ⟨rs1, a1, a2, a3⟩ := skip_trace (P := P) (j := j) (want := want) (os := os) (A := A) (st0 := st0) (hs.set_self hb) hg.1 (by rw [St.reg_set, if_pos rfl]; rcases hx with rfl | ⟨rfl, _⟩; exact .inl (by rw [hw']); exact .inr rfl)
   obtain ⟨rs2, st2, b1, b2, b3⟩ := aitems_trace (h2 hw') a2 hg.2
   obtain ⟨t1, t2⟩ := traceOk_append a1 b1
   exact ⟨rs1 ++ rs2, st2, t1, by rw [flat, t2]; exact b2, by rw [accsOf_append, a3]; exact b3⟩
/- Regions that are carried out in the order of the text. -/
/-- A state of the abstract machine stands for one of the program. -/
structure Rel (W0 : World) (V0 : View) (Own : Fra) (N : Nat) (st : St) (a : Act) (w : World) (V : View) (G : Ctx) : Prop where
 sat : Sat W0 V0 Own V G w st.ob
 regs : ∀ i, Rep V G (st.reg i) (a.tmps.getD i undef)
 size : a.tmps.size = N
 defers : a.defers = Own.dfs
 ini : Own.ctx.le G
section
variable {W0 : World} {V0 : View} {Own : Fra} {P : Program} {N : Nat} {ops : Array Oper} {Q : Exit → Act → World → Prop} {st st' : St} {a : Act} {w w' : World} {V V' : View} {G G' : Ctx}
theorem Rel.same (h : Rel W0 V0 Own N st a w V G) (hs : Same st st') : Rel W0 V0 Own N st' a w V G :=
 ⟨by rw [← hs.obs]; exact h.sat, fun i => by rw [← hs.reg]; exact h.regs i, h.size, h.defers, h.ini⟩
theorem okA_rep {x : Arg} {y : Operand} (hg : Glob V) (hr : ∀ i, Rep V G (st.reg i) (a.tmps.getD i undef)) (h : okA x y = true) : Rep V G (st.ev x) (a.eval y) := by
 cases x with
 | r i =>
  cases y <;> simp only [okA] at h <;> try (cases h; done)
  obtain rfl := Nat.eq_of_beq_eq_true h
  exact hr i
 | c v =>
  cases y with
  | const u =>
   have h' : okC v u = true := by simpa only [okA] using h
   exact (okC_rep V h').rep G
  | func g =>
   cases v <;> simp only [okA] at h <;> try (cases h; done)
   rename_i f caps
   cases caps with
   | nil =>
    simp only [okA] at h
    obtain rfl := Nat.eq_of_beq_eq_true h
    simp only [St.ev, Act.eval, Rep, RepL]
    exact ⟨[], rfl, rfl⟩
   | cons _ _ => simp [okA] at h
  | tmp _ => simp [okA] at h
  | global _ => simp [okA] at h
 | g i =>
  cases y <;> simp only [okA] at h <;> try (cases h; done)
  obtain rfl := Nat.eq_of_beq_eq_true h
  exact hg.rep G i
theorem Rel.args (h : Rel W0 V0 Own N st a w V G) (xs : List Arg) : ArgsOk V G st.ev a xs := fun x _ y hxy => okA_rep (h.sat.glob.mono h.sat.vle) h.regs hxy
theorem St.puts_ob : ∀ (u : List (Nat × Ob)) (st : St), (st.puts u).ob = updO st.ob u
 | [], st => rfl
 | (k, o) :: u, st => by
  rw [St.puts, St.puts_ob u, updO]
  congr 1
  funext j
  exact St.ob_put st k j o
theorem St.puts_reg : ∀ (u : List (Nat × Ob)) (st : St) (i : Nat), (st.puts u).reg i = st.reg i
 | [], st, i => rfl
 | (k, o) :: u, st, i => by rw [St.puts, St.puts_reg u]; rfl
theorem St.setO_ob (st : St) (d : Option Nat) (v : AV) : (st.setO d v).ob = st.ob := by cases d <;> rfl
theorem St.setO_reg (st : St) (d : Option Nat) (v : AV) (i : Nat) : (st.setO d v).reg i = if d = some i then v else st.reg i := by
 cases d with
 | none => simp [St.setO]
 | some j =>
  simp only [St.setO, St.reg_set, Option.some.injEq]
  by_cases h : i = j
  ·rw [if_pos h, if_pos h.symm]
  ·rw [if_neg h, if_neg (fun e => h e.symm)]
theorem put_getD {a : Act} {d : Option Nat} {val : Value} {i : Nat} (hd : ∀ j, d = some j → j < a.tmps.size) : (a.put d val).tmps.getD i undef = if d = some i then val else a.tmps.getD i undef := by
 cases d with
 | none => simp [Act.put]
 | some j =>
  have hj := hd j rfl
  simp only [Act.put, Option.some.injEq]
  by_cases h : j = i
  ·subst h
   rw [if_pos rfl]
   simp [Array.getD, hj]
  ·rw [if_neg h]
   simp only [Array.getD_eq_getD_getElem?]
   rw [Array.getElem?_setIfInBounds_ne h]
theorem Rel.step (h : Rel W0 V0 Own N st a w V G) {x : AOp} {r : Rec} {val : Value} (hd : ∀ j, x.dst = some j → j < N) (hv : Rep V' G' r.v val) (hV : V.le V') (hG : G.le G') (hs : Sat W0 V0 Own V' G' w' (updO st.ob r.u)) :
  Rel W0 V0 Own N (st.step x r) (a.put x.dst val) w' V' G' := by
 refine ⟨?_, fun i => ?_, ?_, ?_, Ctx.le_trans h.ini hG⟩
 ·unfold St.step
  rw [St.setO_ob, St.puts_ob]
  exact hs
 ·unfold St.step
  rw [St.setO_reg, St.puts_reg, put_getD (fun j hj => by rw [h.size]; exact hd j hj)]
  split
  ·exact hv
  ·exact (h.regs i).mono hV hG
 ·cases hx : x.dst with
  | none => exact h.size
  | some d => simp [Act.put, h.size]
 ·cases hx : x.dst with
  | none => exact h.defers
  | some d => exact h.defers
theorem okOp_dst {o : Oper} {x : AOp} (h : okOp P N o x = true) : o.dst = x.dst ∧ ∀ j, x.dst = some j → j < N := by
 simp only [okOp, Bool.and_eq_true, decide_eq_true_eq] at h
 refine ⟨h.1.1, fun j hj => ?_⟩
 have := h.1.2
 rw [hj] at this
 exact of_decide_eq_true this
def okG (P : Program) (N : Nat) (ops : Array Oper) (o : Oper) (g : GOp) : Bool :=
 okOp P N o g.2 && match g.1, o.guard with
  | none, none => true
  | some (j, want), some (ji, want') => (want == want') && (match ops[ji]? with | some oj => decide (oj.dst = some j) | none => false)
  | _, _ => false
def okGs (P : Program) (N : Nat) (ops : Array Oper) : List Oper → List GOp → Bool
 | [], [] => true
 | o :: os, g :: gs => okG P N ops o g && okGs P N ops os gs
 | _, _ => false
/-- One operation, whatever comes behind it. -/
theorem gop_sound {o : Oper} {g : GOp} {r : Rec} {i : Nat} (hi : ops[i]? = some o) (hok : okG P N ops o g = true) (ht : StepOk P st g r) (hr : Rel W0 V0 Own N st a w V G) (K : Act → World → Prop)
  (hK : ∀ a' w' V' G', Rel W0 V0 Own N (st.step g.2 r) a' w' V' G' → K a' w') : wpOp P ops Q i K a w := by
 simp only [okG, Bool.and_eq_true] at hok
 obtain ⟨hok, hgd⟩ := hok
 obtain ⟨hd, hN⟩ := okOp_dst hok
 unfold wpOp
 rw [hi]
 have run : r.exec = true ∧ opR P g.2 st.ev st.ob r.v r.u r.acc → o.wp P a w K Q := by
  intro h
  refine op_sound hok h.2 (hr.args _) hr.sat K Q fun val w' V' G' hv hV hG hs => ?_
  rw [hd]
  exact hK _ _ _ _ (hr.step hN hv hV hG hs)
 obtain ⟨gd, x⟩ := g
 cases gd with
 | none =>
  cases hog : o.guard with
  | none =>
   simp only [Region.wanted, hog, if_true]
   exact .inl (run ht)
  | some q => simp [hog] at hgd
 | some q =>
  obtain ⟨j, want⟩ := q
  cases hog : o.guard with
  | none => simp [hog] at hgd
  | some q' =>
   obtain ⟨ji, want'⟩ := q'
   simp only [hog, Bool.and_eq_true, beq_iff_eq] at hgd
   obtain ⟨rfl, hgd⟩ := hgd
   split at hgd
   ·rename_i oj hoj
    have hdj := of_decide_eq_true hgd
    obtain ⟨b, hb, hx⟩ := ht
    have hreg := hr.regs j
    have hy : yielded ops a.tmps ji = some b ∨ (yielded ops a.tmps ji = none ∧ b = !want) := by
     rcases hb with hb | ⟨hb, hbw⟩
     ·left
      rw [hb] at hreg
      have hreg := rep_bool hreg
      have hj : a.tmps[j]? = some (.bool b) := by
       rw [Array.getD_eq_getD_getElem?] at hreg
       cases hh : a.tmps[j]? with
       | none => rw [hh] at hreg; simp [undef] at hreg
       | some v => rw [hh] at hreg; simp at hreg; rw [hreg]
      simp [yielded, hoj, hdj, hj]
     ·right
      rw [hb] at hreg
      have hreg : a.tmps.getD j undef = .tuple #[] := by
       simp only [Rep, RepL] at hreg
       obtain ⟨us, e, rfl⟩ := hreg
       exact e
      refine ⟨?_, hbw⟩
      rw [Array.getD_eq_getD_getElem?] at hreg
      cases hh : a.tmps[j]? with
      | none => simp [yielded, hoj, hdj, hh]
      | some v => rw [hh] at hreg; simp at hreg; simp [yielded, hoj, hdj, hh, hreg]
    have hw : ((yielded ops a.tmps ji) == some want) = (b == want) := by
     rcases hy with hy | ⟨hy, rfl⟩
     ·rw [hy]; cases b <;> cases want <;> rfl
     ·rw [hy]; cases want <;> rfl
    simp only [Region.wanted, hog, hw]
    rcases hx with ⟨rfl, h1, h2⟩ | ⟨h1, rfl⟩
    ·simp only [beq_self_eq_true, if_true]
     exact .inl (run ⟨h1, h2⟩)
    ·have hne : (b == want) = false := by simp [h1]
     simp only [hne, Bool.false_eq_true, if_false]
     rw [hd]
     exact hK _ _ V G (hr.step (r := Rec.skip) hN (by simp only [Rec.skip, Rep, RepL]; exact ⟨[], rfl, rfl⟩) (View.le_refl _) (Ctx.le_refl _) hr.sat)
   ·cases hgd
theorem text_sound : ∀ {l : List GOp} {rs : List Rec} {st : St} {a : Act} {w : World} {V : View} {G : Ctx} {k : Nat} {rest : List Nat}, okGs P N ops ((ops.toList.drop k).take l.length) l = true → TraceOk P l rs st → Rel W0 V0 Own N st a w V G →
  (∀ a' w' V' G', Rel W0 V0 Own N (runT l rs st) a' w' V' G' → wpOps P ops Q rest a' w') → wpOps P ops Q (List.range' k l.length ++ rest) a w
 | [], rs, st, a, w, V, G, k, rest, hok, ht, hr, hQ => by
  cases rs with
  | nil => exact hQ a w V G hr
  | cons _ _ => exact ht.elim
 | g :: l, [], st, a, w, V, G, k, rest, hok, ht, hr, hQ => ht.elim
 | g :: l, r :: rs, st, a, w, V, G, k, rest, hok, ht, hr, hQ => by
  cases hd : ops.toList.drop k with
  | nil => rw [hd] at hok; simp [okGs] at hok
  | cons o os =>
   rw [hd] at hok
   simp only [List.length_cons, List.take_succ_cons, okGs, Bool.and_eq_true] at hok
   have hi : ops[k]? = some o := by
    have := congrArg (·[0]?) hd
    simpa using this
   have hdr : ops.toList.drop (k + 1) = os := by
    have := congrArg (List.drop 1) hd
    rwa [List.drop_drop] at this
   rw [List.length_cons, List.range'_succ, List.cons_append, wpOps_cons]
   refine gop_sound hi hok.1 ht.1 hr _ fun a' w' V' G' hr' => ?_
   exact text_sound (by rw [hdr]; exact hok.2) ht.2 hr' hQ
theorem okGs_len : ∀ {os : List Oper} {gs : List GOp}, okGs P N ops os gs = true → os.length = gs.length
 | [], [], _ => rfl
 | [], _ :: _, h => by simp [okGs] at h
 | _ :: _, [], h => by simp [okGs] at h
 | o :: os, g :: gs, h => by
  simp only [okGs, Bool.and_eq_true] at h
  simp [okGs_len h.2]
end
/- Regions whose order is drawn: operations that do not touch the same come to the same in every order. -/
section
variable {P : Program}
theorem map_eq_of {ρ ρ' : Arg → AV} : ∀ {xs : List Arg}, (∀ x ∈ xs, ρ x = ρ' x) → xs.map ρ = xs.map ρ'
 | [], _ => rfl
 | x :: xs, h => by rw [List.map_cons, List.map_cons, h x List.mem_cons_self, map_eq_of fun y hy => h y (List.mem_cons_of_mem _ hy)]
theorem fillA_eq {ρ ρ' : Arg → AV} : ∀ {ps : List (Nat × Nat × Arg)} {z : List AV}, (∀ p ∈ ps, ρ p.2.2 = ρ' p.2.2) → fillA ρ ps z = fillA ρ' ps z
 | [], z, _ => rfl
 | (o, n, x) :: ps, z, h => by
  rw [fillA, fillA, h _ List.mem_cons_self]
  exact fillA_eq fun p hp => h p (List.mem_cons_of_mem _ hp)
theorem fillM_eq {ρ ρ' : Arg → AV} : ∀ {ps : List (Nat × Nat × Arg)} {z : List AV}, (∀ p ∈ ps, ρ p.2.2 = ρ' p.2.2) → fillM ρ ps z = fillM ρ' ps z
 | [], z, _ => rfl
 | (o, n, x) :: ps, z, h => by
  rw [fillM, fillM, h _ List.mem_cons_self]
  exact fillM_eq fun p hp => h p (List.mem_cons_of_mem _ hp)
theorem optI_eq {ρ ρ' : Arg → AV} {d : Int} {x : Option Arg} (h : ∀ y ∈ x.toList, ρ y = ρ' y) : optI ρ d x = optI ρ' d x := by
 cases x with
 | none => rfl
 | some y => simp only [optI, h y (by simp)]
theorem callee_eq {ρ ρ' : Arg → AV} {c : Cal} {args : List Arg} (h : ∀ y ∈ (AOp.callf none c args).args, ρ y = ρ' y) : callee ρ c = callee ρ' c ∧ calV ρ c args = calV ρ' c args ∧ (calOk P ρ c → calOk P ρ' c) := by
 cases c with
 | st f => exact ⟨rfl, map_eq_of h, fun h => h⟩
 | dy x =>
  have hx := h x (by simp [AOp.args])
  exact ⟨by simp only [callee, hx], by simp only [calV, hx]; rw [map_eq_of fun y hy => h y (by simp only [AOp.args]; exact List.mem_cons_of_mem _ hy)], fun h => h⟩
 | iv x t nm f =>
  have hx := h x (by simp [AOp.args])
  refine ⟨rfl, ?_, fun h => ?_⟩
  ·simp only [calV, hx]
   rw [map_eq_of fun y hy => h y (by simp only [AOp.args]; exact List.mem_cons_of_mem _ hy)]
  ·simp only [calOk] at h ⊢
   rw [← hx]
   exact h
theorem rowKs_mem {base stride : Nat} : ∀ {n i j : Nat}, i ≤ j → j < i + n → base + stride * j ∈ rowKs base stride i n
 | 0, i, j, h1, h2 => by omega
 | n + 1, i, j, h1, h2 => by
  simp only [rowKs, List.mem_cons]
  rcases Nat.eq_or_lt_of_le h1 with h | h
  ·left; rw [h]
  ·right; exact rowKs_mem h (by omega)
theorem rowOs_mem {base stride esz : Nat} : ∀ {n i : Nat} {p : Nat × Ob}, p ∈ rowOs base stride esz i n → p.1 ∈ rowKs base stride i n
 | 0, i, p, h => by simp [rowOs] at h
 | n + 1, i, p, h => by
  simp only [rowOs, rowKs, List.mem_cons] at h ⊢
  rcases h with rfl | h
  ·exact .inl rfl
  ·exact .inr (rowOs_mem h)
theorem bor1_eq {μ μ' : Nat → Option Ob} {x : AV} (h : ∀ k ∈ key1 x, μ k = μ' k) : bor1 μ x = bor1 μ' x := by
 cases x <;> simp only [bor1] <;> simp only [key1, List.mem_singleton, forall_eq] at h <;> first | rw [h] | rfl
theorem bor2_eq {μ μ' : Nat → Option Ob} {x : AV} (h : ∀ k ∈ key2 μ x, μ k = μ' k) : bor2 μ x = bor2 μ' x := by
 cases x
 case ref k off =>
  have hk : μ k = μ' k := h k (by simp only [key2]; split <;> simp)
  simp only [bor2]
  rw [← hk]
  split
  ·rename_i cs hm
   congr 1
   refine List.map_congr_left fun y hy => bor1_eq fun j hj => h j ?_
   simp only [key2, hm, List.mem_cons, List.mem_flatMap]
   exact .inr ⟨y, hy, hj⟩
  ·rfl
  ·rfl
 all_goals (simp only [bor2]; exact bor1_eq fun j hj => h j (by simpa only [key2] using hj))
theorem bor0_eq {μ μ' : Nat → Option Ob} {x : AV} (h : ∀ k ∈ key0 μ x, μ k = μ' k) : bor0 μ x = bor0 μ' x := by
 cases x
 case mif t x =>
  simp only [bor0]
  rw [bor2_eq (x := x) fun j hj => h j (by simpa only [key0] using hj)]
 all_goals (simp only [bor0]; exact bor2_eq fun j hj => h j (by simpa only [key0] using hj))
theorem bor_eq {μ μ' : Nat → Option Ob} {x : AV} (h : ∀ k ∈ keysA μ x, μ k = μ' k) : bor μ x = bor μ' x := by
 cases x
 case fn f caps =>
  simp only [bor]
  congr 1
  refine List.map_congr_left fun y hy => bor0_eq fun k hk => h k ?_
  simp only [keysA, List.mem_flatMap]
  exact ⟨y, hy, hk⟩
 case mfn f caps =>
  simp only [bor]
  congr 1
  refine List.map_congr_left fun y hy => bor0_eq fun k hk => h k ?_
  simp only [keysA, List.mem_flatMap]
  exact ⟨y, hy, hk⟩
 all_goals (simp only [bor]; exact bor0_eq fun k hk => h k (by simpa only [keysA] using hk))
theorem key2_eq {μ μ' : Nat → Option Ob} {x : AV} (h : ∀ k ∈ key2 μ x, μ k = μ' k) : key2 μ x = key2 μ' x := by
 cases x
 case ref k off =>
  have hk : μ k = μ' k := h k (by simp only [key2]; split <;> simp)
  simp only [key2]
  rw [← hk]
 all_goals rfl
theorem key0_eq {μ μ' : Nat → Option Ob} {x : AV} (h : ∀ k ∈ key0 μ x, μ k = μ' k) : key0 μ x = key0 μ' x := by
 cases x
 case mif t x => simp only [key0] at h ⊢; exact key2_eq h
 all_goals (simp only [key0] at h ⊢; exact key2_eq h)
theorem flatMap_congr_left {α β : Type} {f g : α → List β} : ∀ {l : List α}, (∀ x ∈ l, f x = g x) → l.flatMap f = l.flatMap g
 | [], _ => rfl
 | x :: l, h => by rw [List.flatMap_cons, List.flatMap_cons, h x List.mem_cons_self, flatMap_congr_left fun y hy => h y (List.mem_cons_of_mem _ hy)]
theorem keysA_eq {μ μ' : Nat → Option Ob} {x : AV} (h : ∀ k ∈ keysA μ x, μ k = μ' k) : keysA μ x = keysA μ' x := by
 cases x
 case fn f caps =>
  simp only [keysA]
  exact flatMap_congr_left fun y hy => key0_eq fun k hk => h k (by simp only [keysA, List.mem_flatMap]; exact ⟨y, hy, hk⟩)
 case mfn f caps =>
  simp only [keysA]
  exact flatMap_congr_left fun y hy => key0_eq fun k hk => h k (by simp only [keysA, List.mem_flatMap]; exact ⟨y, hy, hk⟩)
 all_goals (simp only [keysA] at h ⊢; exact key0_eq h)
theorem lendL_eq {μ μ' : Nat → Option Ob} {xs ys : List AV} {ks : List Nat} (h : LendL μ xs ys ks) : (∀ k ∈ ks, μ k = μ' k) → LendL μ' xs ys ks := by
 induction h with
 | nil => intro _; exact .nil
 | pure hp _ ih => intro hk; exact .pure hp (ih hk)
 | ref hm _ ho _ ih1 ih2 =>
  intro hk
  exact .ref (by rw [← hk _ List.mem_cons_self]; exact hm) (ih1 fun k h => hk k (List.mem_cons_of_mem _ (List.mem_append_left _ h))) ho (ih2 fun k h => hk k (List.mem_cons_of_mem _ (List.mem_append_right _ h)))
 | pref hm _ ih =>
  intro hk
  exact .pref (by rw [← hk _ List.mem_cons_self]; exact hm) (ih fun k h => hk k (List.mem_cons_of_mem _ h))
 | hs hm _ ih =>
  intro hk
  exact .hs (by rw [← hk _ List.mem_cons_self]; exact hm) (ih fun k h => hk k (List.mem_cons_of_mem _ h))
 | hsr hm _ ho _ ih1 ih2 =>
  intro hk
  exact .hsr (by rw [← hk _ List.mem_cons_self]; exact hm) (ih1 fun k h => hk k (List.mem_cons_of_mem _ (List.mem_append_left _ h))) ho (ih2 fun k h => hk k (List.mem_cons_of_mem _ (List.mem_append_right _ h)))
theorem argL_eq {μ μ' : Nat → Option Ob} {pass : List Nat} {xs ys : List AV} {ks : List Nat} (h : ArgL μ pass xs ys ks) : (∀ k ∈ ks, μ k = μ' k) → ArgL μ' pass xs ys ks := by
 induction h with
 | nil => intro _; exact .nil
 | pass h1 h2 _ ih => intro hk; exact .pass h1 h2 (ih hk)
 | lend hl _ ih =>
  intro hk
  refine .lend (lendL_eq hl fun k h => ?_) (ih fun k h => hk k (List.mem_append_right _ h))
  unfold hideM
  rw [hk k (List.mem_append_left _ h)]
theorem opR_frame {o : AOp} {ρ ρ' : Arg → AV} {μ μ' : Nat → Option Ob} {v : AV} {u : List (Nat × Ob)} {acc : Acc} (h : opR P o ρ μ v u acc) (hρ : ∀ x ∈ o.args, ρ x = ρ' x) (hμ : ∀ k, k ∈ acc.1 ∨ k ∈ acc.2 → μ k = μ' k) : opR P o ρ' μ' v u acc := by
 cases o <;> simp only [AOp.args, List.mem_cons, List.not_mem_nil, or_false, forall_eq_or_imp, forall_eq] at hρ <;> simp only [opR] at h ⊢
 case mov => rw [← hρ]; exact h
 case bin => rw [← hρ.1, ← hρ.2]; exact h
 case eq => rw [← hρ.1, ← hρ.2]; exact h
 case un => rw [← hρ]; exact h
 case conv => rw [← hρ]; exact h
 case len => rw [← hρ]; exact h
 case slen => rw [← hρ]; exact h
 case idx =>
  rw [← hρ.1, ← hρ.2]
  obtain ⟨h1, ik, z, h2, h3, h4⟩ := h
  refine ⟨h1, ik, z, h2, h3, ?_⟩
  rcases h4 with h4 | ⟨k, ver, off, len, xs, g1, g2, g3, g4, rfl⟩ | h4
  ·exact .inl h4
  ·exact .inr (.inl ⟨k, ver, off, len, xs, g1, g2, by rw [← hμ k (by simp)]; exact g3, g4, rfl⟩)
  ·exact .inr (.inr h4)
 case aix => rw [← hρ.1, ← hρ.2]; exact h
 case fad => rw [← hρ]; exact h
 case load =>
  rw [← hρ]
  obtain ⟨h1, h4⟩ := h
  refine ⟨h1, ?_⟩
  rcases h4 with h4 | ⟨k, of, c, g1, g2, g3, rfl⟩ | ⟨k, of, c, g1, g2, g3, rfl⟩ | ⟨k, ver, i, of, esz, xs, c, g1, g2, g3, g4, rfl⟩
  ·exact .inl h4
  ·exact .inr (.inl ⟨k, of, c, g1, by rw [← hμ k (by simp)]; exact g2, g3, rfl⟩)
  ·exact .inr (.inr (.inl ⟨k, of, c, g1, by rw [← hμ k (by simp)]; exact g2, g3, rfl⟩))
  ·exact .inr (.inr (.inr ⟨k, ver, i, of, esz, xs, c, g1, by rw [← hμ k (by simp)]; exact g2, g3, g4, rfl⟩))
 case store =>
  rw [← hρ.1, ← hρ.2]
  obtain ⟨h1, hl, h4⟩ := h
  refine ⟨h1, hl, ?_⟩
  rcases h4 with ⟨k, of, c, g1, g2, g3, g4, g5, g6, rfl⟩ | ⟨k, of, c, g1, g2, g3, g4, g5, g6, rfl⟩ | ⟨k, ver, i, of, esz, xs, c, g1, g2, g3, g4, g5, g6, g7, rfl⟩
  ·exact .inl ⟨k, of, c, g1, by rw [← hμ k (by simp)]; exact g2, g3, g4, g5, g6, rfl⟩
  ·exact .inr (.inl ⟨k, of, c, g1, by rw [← hμ k (by simp)]; exact g2, g3, g4, g5, g6, rfl⟩)
  ·exact .inr (.inr ⟨k, ver, i, of, esz, xs, c, g1, by rw [← hμ k (by simp)]; exact g2, g3, g4, g5, g6, g7, rfl⟩)
 case boxp => rw [← hρ]; exact h
 case boxo d key x =>
  rw [← hρ]
  obtain ⟨g1, g2, g3, g4, rfl⟩ := h
  exact ⟨g1, by rw [← hμ key (by simp)]; exact g2, g3, g4, rfl⟩
 case boxm d key x =>
  rw [← hρ]
  obtain ⟨g0, g1, g2, g3, g4, rfl⟩ := h
  exact ⟨g0, g1, by rw [← hμ key (by simp)]; exact g2, g3, g4, rfl⟩
 case alloc d key cells =>
  obtain ⟨g2, g3, g4, rfl⟩ := h
  exact ⟨by rw [← hμ key (by simp)]; exact g2, g3, g4, rfl⟩
 case allocm d key cells =>
  obtain ⟨g2, g3, g4, rfl⟩ := h
  exact ⟨by rw [← hμ key (by simp)]; exact g2, g3, g4, rfl⟩
 case alloca d key key2 esz =>
  obtain ⟨g1, g2, g3, g4, g5, rfl⟩ := h
  exact ⟨by rw [← hμ key (by simp)]; exact g1, by rw [← hμ key2 (by simp)]; exact g2, g3, g4, g5, rfl⟩
 case nilarr d key esz =>
  obtain ⟨g2, g3, g4, rfl⟩ := h
  exact ⟨by rw [← hμ key (by simp)]; exact g2, g3, g4, rfl⟩
 case build d zero parts =>
  have hp : ∀ p ∈ parts, ρ p.2.2 = ρ' p.2.2 := fun p hp => hρ _ (List.mem_map.2 ⟨p, hp, rfl⟩)
  obtain ⟨g1, g2, g3, g4⟩ := h
  refine ⟨fun p hp' => by rw [← hp p hp']; exact g1 p hp', by rw [← fillA_eq hp]; exact g2, g3, g4⟩
 case bslp d esz rows =>
  obtain ⟨g1, g2, g3, g4⟩ := h
  have e : (rows.map fun r => cellsOf (ρ r)) = rows.map fun r => cellsOf (ρ' r) := List.map_congr_left fun r hr => by rw [hρ r hr]
  exact ⟨fun r hr => by rw [← hρ r hr]; exact g1 r hr, by rw [← e]; exact g2, g3, g4⟩
 case bslo d key esz rows =>
  obtain ⟨g0, g1, g2, g3, rfl⟩ := h
  have e : (rows.map fun r => cellsOf (ρ r)) = rows.map fun r => cellsOf (ρ' r) := List.map_congr_left fun r hr => by rw [hρ r hr]
  exact ⟨by rw [← hμ key (by simp)]; exact g0, fun r hr => by rw [← hρ r hr]; exact g1 r hr, g2, by rw [← e]; exact g3, rfl⟩
 case slc d x lo hi esz =>
  obtain ⟨hx, hr⟩ := hρ
  have e1 : ∀ d, optI ρ d lo = optI ρ' d lo := fun d => optI_eq fun y hy => hr y (by simp [hy])
  have e2 : ∀ d, optI ρ d hi = optI ρ' d hi := fun d => optI_eq fun y hy => hr y (by simp [hy])
  obtain ⟨h1, h4⟩ := h
  refine ⟨h1, ?_⟩
  simp only [← hx, ← e1, ← e2]
  rcases h4 with h4 | ⟨k, ver, off, len, xs, l, h, g1, g2, g3, g4, g5, g6, g7, g8, rfl⟩
  ·exact .inl h4
  ·exact .inr ⟨k, ver, off, len, xs, l, h, g1, by rw [← hμ k (by simp)]; exact g2, g3, g4, g5, g6, g7, g8, rfl⟩
 case sslc d x lo hi =>
  obtain ⟨hx, hr⟩ := hρ
  have e1 : ∀ d, optI ρ d lo = optI ρ' d lo := fun d => optI_eq fun y hy => hr y (by simp [hy])
  have e2 : ∀ d, optI ρ d hi = optI ρ' d hi := fun d => optI_eq fun y hy => hr y (by simp [hy])
  simp only [← hx, ← e1, ← e2]
  exact h
 case slc3 d x lo hi mx esz =>
  obtain ⟨hx, hhi, hmx, hr⟩ := hρ
  have e1 : ∀ d, optI ρ d lo = optI ρ' d lo := fun d => optI_eq fun y hy => hr y (by simp at hy; simp [hy])
  have e2 : ∀ d, optI ρ d (some hi) = optI ρ' d (some hi) := fun d => optI_eq fun y hy => by simp at hy; rw [hy, hhi]
  have e3 : ∀ d, optI ρ d (some mx) = optI ρ' d (some mx) := fun d => optI_eq fun y hy => by simp at hy; rw [hy, hmx]
  simp only [← hx, ← e1, ← e2, ← e3]
  obtain ⟨h1, h4⟩ := h
  refine ⟨h1, ?_⟩
  rcases h4 with h4 | ⟨k, ver, off, len, e, xs, l, h, m, g1, g2, g3, g4, g5, g6, g7, g8, g9, g10, rfl⟩
  ·exact .inl h4
  ·exact .inr ⟨k, ver, off, len, e, xs, l, h, m, g1, by rw [← hμ k (by simp)]; exact g2, g3, g4, g5, g6, g7, g8, g9, g10, rfl⟩
 case sidx => simp only [← hρ.1, ← hρ.2]; exact h
 case mkfn d f caps => rw [← map_eq_of hρ]; exact h
 case ext => rw [← hρ]; exact h
 case pick => rw [← hρ.1, ← hρ.2.1, ← hρ.2.2]; exact h
 case callf d c args =>
  have hh : ∀ y ∈ (AOp.callf none c args).args, ρ y = ρ' y := by
   cases c with
   | st f => simpa [AOp.args] using hρ
   | dy x => simpa [AOp.args] using hρ
   | iv x t nm f => simpa [AOp.args] using hρ
  obtain ⟨e1, e2, e3⟩ := callee_eq (P := P) hh
  rw [← e1, ← e2]
  obtain ⟨h1, h2, f, caps, res, h3, h4, h5⟩ := h
  exact ⟨h1, h2, f, caps, res, h3, e3 h4, h5⟩
 case callb d c args =>
  have hh : ∀ y ∈ (AOp.callf none c args).args, ρ y = ρ' y := by
   cases c with
   | st f => simpa [AOp.args] using hρ
   | dy x => simpa [AOp.args] using hρ
   | iv x t nm f => simpa [AOp.args] using hρ
  obtain ⟨e1, e2, e4⟩ := callee_eq (P := P) hh
  rw [← e1, ← e2]
  obtain ⟨h1, f, caps, res, h2, h2', rfl, h3, h4, h5, h6⟩ := h
  have hk : ∀ y ∈ calV ρ c args ++ caps, ∀ k ∈ keysA μ y, μ k = μ' k := fun y hy k hk => hμ k (.inl (by
   simp only [List.mem_flatMap]
   exact ⟨y, hy, hk⟩))
  have e3 : (calV ρ c args ++ caps).map (bor μ) = (calV ρ c args ++ caps).map (bor μ') := List.map_congr_left fun y hy => bor_eq (hk y hy)
  have e5 : (calV ρ c args ++ caps).flatMap (keysA μ) = (calV ρ c args ++ caps).flatMap (keysA μ') := flatMap_congr_left fun y hy => keysA_eq (hk y hy)
  exact ⟨h1, f, caps, res, h2, e4 h2', by rw [e5], by rw [← e3]; exact h3, by rw [← e3]; exact h4, h5, h6⟩
 case appd =>
  rw [← hρ.1, ← hρ.2]
  obtain ⟨k, ver, off, len, xs, ys, rd, g1, g2, g3, g4, rfl⟩ := h
  refine ⟨k, ver, off, len, xs, ys, rd, g1, by rw [← hμ k (by simp)]; exact g2, ?_, g4, rfl⟩
  rcases g3 with g3 | ⟨k2, ver2, off2, len2, xs2, h1, h2, h3, rfl⟩
  ·exact .inl g3
  ·exact .inr ⟨k2, ver2, off2, len2, xs2, h1, by rw [← hμ k2 (by simp)]; exact h2, h3, rfl⟩
 case clear =>
  rw [← hρ]
  obtain ⟨h0, k, ver, off, len, esz, xs, g1, g2, g3, g4, g5, g6, rfl⟩ := h
  exact ⟨h0, k, ver, off, len, esz, xs, g1, by rw [← hμ k (by simp)]; exact g2, g3, g4, g5, g6, rfl⟩
 case mxn => rw [← hρ.1, ← hρ.2]; exact h
 case field => rw [← hρ]; exact h
 case nilc => rw [← hρ]; exact h
 case make d key esz bytes zero n c =>
  rw [← hρ.1, ← hρ.2]
  obtain ⟨nk, ck, z, zc, h1, h2, h3, h4, h5, h6, h7, h8, h9, rfl⟩ := h
  exact ⟨nk, ck, z, zc, h1, h2, h3, h4, h5, h6, by rw [← hμ key (by simp)]; exact h7, h8, h9, rfl⟩
 case makeb d key bytes rows zero n c =>
  rw [← hρ.1, ← hρ.2]
  obtain ⟨nk, ck, z, zc, h1, h2, h3, h4, h5, h6, h7, h8, h9, rfl⟩ := h
  refine ⟨nk, ck, z, zc, h1, h2, h3, h4, h5, by rw [← hμ key (by simp)]; exact h6, ?_, h8, h9, rfl⟩
  cases rows with
  | none => trivial
  | some r =>
   obtain ⟨base, stride, esz⟩ := r
   refine ⟨h7.1, fun i hi => ⟨?_, (h7.2 i hi).2⟩⟩
   rw [← hμ _ (by simp only [mkbK, List.mem_cons]; exact .inr (.inr (rowKs_mem (by omega) (by omega))))]
   exact (h7.2 i hi).1
 case buildm d zero parts =>
  have e : fillM ρ parts zero = fillM ρ' parts zero := fillM_eq fun p hp => hρ _ (List.mem_map.2 ⟨p, hp, rfl⟩)
  rw [← e]
  obtain ⟨h1, h2⟩ := h
  exact ⟨fun p hp => by rw [← hρ _ (List.mem_map.2 ⟨p, hp, rfl⟩)]; exact h1 p hp, h2⟩
 case boxg d key x =>
  rw [← hρ]
  obtain ⟨h1, h2, h3, h4, h5, rfl⟩ := h
  exact ⟨h1, h2, by rw [← hμ key (by simp)]; exact h3, h4, h5, rfl⟩
 case mkif => rw [← hρ]; exact h
 case tass => rw [← hρ]; exact h
 case callo d c args pass new =>
  have hh : ∀ y ∈ (AOp.callf none c args).args, ρ y = ρ' y := by
   cases c with
   | st f => simpa [AOp.args] using hρ
   | dy x => simpa [AOp.args] using hρ
   | iv x t nm f => simpa [AOp.args] using hρ
  obtain ⟨e1, e2, e3⟩ := callee_eq (P := P) hh
  rw [← e1, ← e2]
  obtain ⟨f, caps, obs, res, obs', h1, h2, h3, h4, h5, h6, h7, h8, rfl⟩ := h
  have g1 : ∀ (ks : List Nat), (∀ k ∈ ks, μ k = μ' k) → getObsM μ ks = getObsM μ' ks := by
   intro ks
   induction ks with
   | nil => intro _; rfl
   | cons k ks ih => intro h; simp only [getObsM, h k List.mem_cons_self, ih fun j hj => h j (List.mem_cons_of_mem _ hj)]
  have g2 : ∀ (ks : List Nat), (∀ k ∈ ks, μ k = μ' k) → allNoneM μ ks = allNoneM μ' ks := by
   intro ks
   induction ks with
   | nil => intro _; rfl
   | cons k ks ih => intro h; simp only [allNoneM, h k List.mem_cons_self, ih fun j hj => h j (List.mem_cons_of_mem _ hj)]
  exact ⟨f, caps, obs, res, obs', h1, e3 h2, by rw [← g1 pass fun k hk => hμ k (.inr (List.mem_append_left _ hk))]; exact h3, by rw [← g2 new fun k hk => hμ k (.inr (List.mem_append_right _ hk))]; exact h4, h5, h6, h7, h8, rfl⟩
 case callx d c args pass new =>
  have hh : ∀ y ∈ (AOp.callf none c args).args, ρ y = ρ' y := by
   cases c with
   | st f => simpa [AOp.args] using hρ
   | dy x => simpa [AOp.args] using hρ
   | iv x t nm f => simpa [AOp.args] using hρ
  obtain ⟨e1, e2, e3⟩ := callee_eq (P := P) hh
  rw [← e1, ← e2]
  obtain ⟨f, caps, obs, res, obs', h1, h2, h3, h4, h5, h6, h7, h8, h9, h10, rfl⟩ := h
  have g1 : ∀ (ks : List Nat), (∀ k ∈ ks, μ k = μ' k) → getObsM μ ks = getObsM μ' ks := by
   intro ks
   induction ks with
   | nil => intro _; rfl
   | cons k ks ih => intro h; simp only [getObsM, h k List.mem_cons_self, ih fun j hj => h j (List.mem_cons_of_mem _ hj)]
  have g2 : ∀ (ks : List Nat), (∀ k ∈ ks, μ k = μ' k) → allNoneM μ ks = allNoneM μ' ks := by
   intro ks
   induction ks with
   | nil => intro _; rfl
   | cons k ks ih => intro h; simp only [allNoneM, h k List.mem_cons_self, ih fun j hj => h j (List.mem_cons_of_mem _ hj)]
  have hk : ∀ y ∈ calV ρ c args ++ caps, ∀ k ∈ keysA (hideM pass μ) y, hideM pass μ k = hideM pass μ' k := fun y hy k hk => by
   unfold hideM
   rw [hμ k (.inl (by
    simp only [List.mem_flatMap]
    exact ⟨y, hy, hk⟩))]
  have e4 : (calV ρ c args ++ caps).map (xbor pass μ) = (calV ρ c args ++ caps).map (xbor pass μ') := List.map_congr_left fun y hy => by
   unfold xbor
   rw [bor_eq (hk y hy)]
  have e5 : (calV ρ c args ++ caps).flatMap (keysA (hideM pass μ)) = (calV ρ c args ++ caps).flatMap (keysA (hideM pass μ')) := flatMap_congr_left fun y hy => keysA_eq (hk y hy)
  exact ⟨f, caps, obs, res, obs', h1, e3 h2, by rw [← g1 pass fun k hk => hμ k (.inr (List.mem_append_left _ hk))]; exact h3, by rw [← g2 new fun k hk => hμ k (.inr (List.mem_append_right _ hk))]; exact h4, by rw [← e4]; exact h5, h6, h7, h8, h9, h10, by rw [e5]⟩
 case eqs => rw [← hρ]; exact h
 case mkmv d f bs => rw [← map_eq_of hρ]; exact h
 case vidx => rw [← hρ.1, ← hρ.2]; exact h
 case calle d c args =>
  have hh : ∀ y ∈ (AOp.callf none c args).args, ρ y = ρ' y := by
   cases c with
   | st f => simpa [AOp.args] using hρ
   | dy x => simpa [AOp.args] using hρ
   | iv x t nm f => simpa [AOp.args] using hρ
  obtain ⟨e1, e2, e3⟩ := callee_eq (P := P) hh
  rw [← e1, ← e2]
  obtain ⟨pass, new, ys, ks, f, caps, obs, res, obs', h1, h2, h3, h4, h5, h6, h7, h8, h9, h10, h11, h12, rfl⟩ := h
  have g1 : ∀ (ks : List Nat), (∀ k ∈ ks, μ k = μ' k) → getObsM μ ks = getObsM μ' ks := by
   intro ks
   induction ks with
   | nil => intro _; rfl
   | cons k ks ih => intro h; simp only [getObsM, h k List.mem_cons_self, ih fun j hj => h j (List.mem_cons_of_mem _ hj)]
  have g2 : ∀ (ks : List Nat), (∀ k ∈ ks, μ k = μ' k) → allNoneM μ ks = allNoneM μ' ks := by
   intro ks
   induction ks with
   | nil => intro _; rfl
   | cons k ks ih => intro h; simp only [allNoneM, h k List.mem_cons_self, ih fun j hj => h j (List.mem_cons_of_mem _ hj)]
  exact ⟨pass, new, ys, ks, f, caps, obs, res, obs', h1, e3 h2, h3, by rw [← g1 pass fun k hk => hμ k (.inr (List.mem_append_left _ hk))]; exact h4, by rw [← g2 new fun k hk => hμ k (.inr (List.mem_append_right _ hk))]; exact h5, argL_eq h6 fun k hk => hμ k (.inl hk), h7, h8, h9, h10, h11, h12, rfl⟩
 case bslr d key x =>
  rw [← hρ]
  obtain ⟨k, off, g1, g2, g3, g4, rfl⟩ := h
  exact ⟨k, off, g1, by rw [← hμ key (by simp)]; exact g2, g3, g4, rfl⟩
 case ridx =>
  rw [← hρ.1, ← hρ.2]
  obtain ⟨g1, ik, z, k, ver, off, len, cs, g2, g3, g4, g5, g6, g7, rfl⟩ := h
  exact ⟨g1, ik, z, k, ver, off, len, cs, g2, g3, g4, g5, by rw [← hμ k (by simp)]; exact g6, g7, rfl⟩
 case rload =>
  rw [← hρ]
  obtain ⟨g1, k, ver, i, cs, g2, g3, g4, rfl⟩ := h
  exact ⟨g1, k, ver, i, cs, g2, by rw [← hμ k (by simp)]; exact g3, g4, rfl⟩
 case rapp =>
  rw [← hρ.1, ← hρ.2]
  obtain ⟨k, ver, off, len, cs, k2, ver2, off2, len2, cs2, g1, g2, g3, g4, g5, g6, g7, g8, g9, rfl⟩ := h
  exact ⟨k, ver, off, len, cs, k2, ver2, off2, len2, cs2, g1, by rw [← hμ k (by simp)]; exact g2, g3, by rw [← hμ k2 (by simp)]; exact g4, g5, g6, g7, g8, g9, rfl⟩
theorem opR_keys {o : AOp} {ρ : Arg → AV} {μ : Nat → Option Ob} {v : AV} {u : List (Nat × Ob)} {acc : Acc} (h : opR P o ρ μ v u acc) : ∀ p ∈ u, p.1 ∈ acc.2 := by
 cases o <;> simp only [opR] at h
 all_goals first
  | (obtain ⟨_, rfl, rfl⟩ := h; intro p hp; cases hp; done)
  | (obtain ⟨_, _, rfl, rfl⟩ := h; intro p hp; cases hp; done)
  | (obtain ⟨rfl, rfl, _⟩ := h; intro p hp; cases hp; done)
  | (obtain ⟨rfl, _⟩ := h; intro p hp; cases hp; done)
  | (obtain ⟨_, _, _, rfl, rfl⟩ := h; intro p hp; simp at hp; try (subst hp; simp); done)
  | (obtain ⟨_, _, rfl, rfl⟩ := h; intro p hp; simp at hp; subst hp; simp; done)
  | skip
 case store =>
  obtain ⟨_, _, h⟩ := h
  rcases h with ⟨k, of, c, _, _, _, _, _, rfl, rfl⟩ | ⟨k, of, c, _, _, _, _, _, rfl, rfl⟩ | ⟨k, ver, i, of, esz, xs, c, _, _, _, _, _, _, rfl, rfl⟩
  all_goals intro p hp; simp at hp; subst hp; simp
 case boxm =>
  obtain ⟨_, _, _, _, rfl, rfl⟩ := h
  intro p hp; simp at hp; subst hp; simp
 case alloca =>
  obtain ⟨_, _, _, _, rfl, rfl⟩ := h
  intro p hp
  simp at hp
  rcases hp with rfl | rfl <;> simp
 case appd =>
  obtain ⟨k, ver, off, len, xs, ys, rd, _, _, _, h, rfl⟩ := h
  rcases h with ⟨_, _, rfl⟩ | ⟨_, _, _, rfl⟩
  all_goals intro p hp; simp at hp; subst hp; simp
 case clear =>
  obtain ⟨_, k, ver, off, len, esz, xs, _, _, _, _, _, rfl, rfl⟩ := h
  intro p hp; simp at hp; subst hp; simp
 case make =>
  obtain ⟨nk, ck, z, zc, _, _, _, _, _, _, _, _, rfl, rfl⟩ := h
  intro p hp; simp at hp; subst hp; simp
 case boxg =>
  obtain ⟨_, _, _, _, rfl, rfl⟩ := h
  intro p hp; simp at hp; subst hp; simp
 case calle =>
  obtain ⟨pass, new, ys, ks, f, caps, obs, res, obs', _, _, _, _, _, _, _, _, _, _, _, rfl, rfl⟩ := h
  have key : ∀ (ks : List Nat) (os : List Ob), ∀ p ∈ zipU ks os, p.1 ∈ ks := by
   intro ks
   induction ks with
   | nil => intro os p hp; simp [zipU] at hp
   | cons k ks ih =>
    intro os p hp
    cases os with
    | nil => simp [zipU] at hp
    | cons o os =>
     simp only [zipU, List.mem_cons] at hp
     rcases hp with rfl | hp
     ·exact List.mem_cons_self
     ·exact List.mem_cons_of_mem _ (ih os p hp)
  exact key _ _
 case bslr =>
  obtain ⟨k, off, _, _, _, rfl, rfl⟩ := h
  intro p hp; simp at hp; subst hp; simp
 case rapp =>
  obtain ⟨k, ver, off, len, cs, k2, ver2, off2, len2, cs2, _, _, _, _, _, _, _, _, rfl, rfl⟩ := h
  intro p hp; simp at hp; subst hp; simp
 case makeb dd key bytes rows zero n c =>
  obtain ⟨nk, ck, z, zc, _, _, _, _, _, _, _, _, rfl, rfl⟩ := h
  intro p hp
  rcases List.mem_append.1 hp with hp | hp
  ·refine List.mem_cons_of_mem _ ?_
   cases rows with
   | none => cases hp
   | some r =>
    obtain ⟨base, stride, esz⟩ := r
    exact rowOs_mem hp
  ·rw [List.mem_singleton] at hp
   subst hp
   exact List.mem_cons_self
 case callo =>
  obtain ⟨f, caps, obs, res, obs', _, _, _, _, _, _, _, rfl, rfl⟩ := h
  have key : ∀ (ks : List Nat) (os : List Ob), ∀ p ∈ zipU ks os, p.1 ∈ ks := by
   intro ks
   induction ks with
   | nil => intro os p hp; simp [zipU] at hp
   | cons k ks ih =>
    intro os p hp
    cases os with
    | nil => simp [zipU] at hp
    | cons o os =>
     simp only [zipU, List.mem_cons] at hp
     rcases hp with rfl | hp
     ·exact List.mem_cons_self
     ·exact List.mem_cons_of_mem _ (ih os p hp)
  exact key _ _
 case callx =>
  obtain ⟨f, caps, obs, res, obs', _, _, _, _, _, _, _, _, _, rfl, rfl⟩ := h
  have key : ∀ (ks : List Nat) (os : List Ob), ∀ p ∈ zipU ks os, p.1 ∈ ks := by
   intro ks
   induction ks with
   | nil => intro os p hp; simp [zipU] at hp
   | cons k ks ih =>
    intro os p hp
    cases os with
    | nil => simp [zipU] at hp
    | cons o os =>
     simp only [zipU, List.mem_cons] at hp
     rcases hp with rfl | hp
     ·exact List.mem_cons_self
     ·exact List.mem_cons_of_mem _ (ih os p hp)
  exact key _ _
end
/- Regions whose order is drawn: the proof over all orders. -/
/-- The registers that an operation looks at. -/
def Arg.reg? : Arg → List Nat
 | .r i => [i]
 | .c _ => []
 | .g _ => []
def GOp.reads (g : GOp) : List Nat := g.2.args.flatMap Arg.reg? ++ (match g.1 with | some (j, _) => [j] | none => [])
def GOp.writes (g : GOp) : List Nat := g.2.dst.toList
def meets (a b : List Nat) : Bool := a.any fun x => b.any fun y => Nat.beq x y
/-- Of two operations that touch one register, one of which writes it, the first comes ahead of the second in every order. -/
def regClash (g h : GOp) : Bool := meets g.writes h.reads || meets g.writes h.writes || meets g.reads h.writes
def accClash (a b : Acc) : Bool := meets a.2 (b.1 ++ b.2) || meets a.1 b.2
def accsOk (prec : List (List Nat)) (A : List Acc) : Bool := pairsOk accClash prec 0 [] A
/-- Who comes ahead of whom in every order. -/
def precOk (ops : Array Oper) (prec : List (List Nat)) : Bool :=
 (List.range ops.size).all fun i =>
  match ops[i]? with
  | some o => (o.after.toList.all fun e => !Region.binds .any e || Nat.blt e.on i) &&
    (prec.getD i []).all fun j => o.after.toList.any fun e => Region.binds .any e && (Nat.beq e.on j || (Nat.blt e.on i && (prec.getD e.on []).any fun k => Nat.beq k j))
  | none => true
theorem meets_iff {a b : List Nat} : meets a b = true ↔ ∃ x, x ∈ a ∧ x ∈ b := by
 simp only [meets, List.any_eq_true]
 constructor
 ·rintro ⟨x, hx, y, hy, he⟩
  exact ⟨x, hx, by rw [Nat.eq_of_beq_eq_true he]; exact hy⟩
 ·rintro ⟨x, hx, hy⟩
  exact ⟨x, hx, x, hy, Nat.beq_refl x⟩
section
variable {W0 : World} {V0 : View} {Own : Fra} {P : Program} {N : Nat} {ops : Array Oper} {Q : Exit → Act → World → Prop} {l : List GOp} {rs : List Rec} {st : St}
/-- The state behind those operations that L names, in the text's order. -/
def foldN (l : List GOp) (rs : List Rec) (st : St) (L : Nat → Bool) : Nat → St
 | 0 => st
 | i + 1 => if L i then (match l[i]?, rs[i]? with | some g, some r => (foldN l rs st L i).step g.2 r | _, _ => foldN l rs st L i) else foldN l rs st L i
theorem step_reg (s : St) (x : AOp) (r : Rec) (i : Nat) : (s.step x r).reg i = if x.dst = some i then r.v else s.reg i := by
 unfold St.step
 rw [St.setO_reg, St.puts_reg]
theorem updO_other : ∀ {u : List (Nat × Ob)} {μ : Nat → Option Ob} {k : Nat}, (∀ p ∈ u, p.1 ≠ k) → updO μ u k = μ k
 | [], μ, k, _ => rfl
 | (j, o) :: u, μ, k, h => by
  rw [updO, updO_other fun p hp => h p (List.mem_cons_of_mem _ hp)]
  exact if_neg (fun e => h (j, o) List.mem_cons_self e.symm)
theorem updO_congr : ∀ {u : List (Nat × Ob)} {μ μ' : Nat → Option Ob} {k : Nat}, μ k = μ' k → updO μ u k = updO μ' u k
 | [], μ, μ', k, h => h
 | (j, o) :: u, μ, μ', k, h => by
  rw [updO, updO]
  refine updO_congr ?_
  by_cases e : k = j
  ·rw [if_pos e, if_pos e]
  ·rw [if_neg e, if_neg e]; exact h
theorem updO_mem : ∀ {u : List (Nat × Ob)} {μ μ' : Nat → Option Ob} {k : Nat}, (∃ p ∈ u, p.1 = k) → updO μ u k = updO μ' u k
 | [], μ, μ', k, h => by obtain ⟨p, hp, _⟩ := h; cases hp
 | (j, o) :: u, μ, μ', k, h => by
  rw [updO, updO]
  by_cases e : k = j
  ·refine updO_congr ?_
   rw [if_pos e, if_pos e]
  ·obtain ⟨p, hp, hk⟩ := h
   rcases List.mem_cons.1 hp with rfl | hp
   ·exact absurd hk.symm e
   ·exact updO_mem ⟨p, hp, hk⟩
theorem step_ob (s : St) (x : AOp) (r : Rec) : (s.step x r).ob = updO s.ob r.u := by
 unfold St.step
 rw [St.setO_ob, St.puts_ob]
/-- A register that is written by the same ones. -/
theorem foldN_reg {L L' : Nat → Bool} {r : Nat} : ∀ {n : Nat}, (∀ j g, j < n → l[j]? = some g → g.2.dst = some r → L j = L' j) → (foldN l rs st L n).reg r = (foldN l rs st L' n).reg r
 | 0, _ => rfl
 | n + 1, h => by
  have ih := foldN_reg (n := n) fun j g hj => h j g (by omega)
  simp only [foldN]
  cases hg : l[n]? with
  | none => simp only [ite_self]; exact ih
  | some g =>
   cases hr : rs[n]? with
   | none => simp only [ite_self]; exact ih
   | some rr =>
    by_cases hd : g.2.dst = some r
    ·rw [h n g (by omega) hg hd]
     split
     ·rw [step_reg, step_reg, if_pos hd, if_pos hd]
     ·exact ih
    ·have e : ∀ b : Bool, ∀ s : St, (if b = true then s.step g.2 rr else s).reg r = s.reg r := by
      intro b s
      cases b
      ·rfl
      ·simp only [if_true]; rw [step_reg, if_neg hd]
     rw [e, e]
     exact ih
theorem foldN_ob {L L' : Nat → Bool} {k : Nat} : ∀ {n : Nat}, (∀ j r, j < n → rs[j]? = some r → (∃ p ∈ r.u, p.1 = k) → L j = L' j) → (foldN l rs st L n).ob k = (foldN l rs st L' n).ob k
 | 0, _ => rfl
 | n + 1, h => by
  have ih := foldN_ob (n := n) fun j g hj => h j g (by omega)
  simp only [foldN]
  cases hg : l[n]? with
  | none => simp only [ite_self]; exact ih
  | some g =>
   cases hr : rs[n]? with
   | none => simp only [ite_self]; exact ih
   | some rr =>
    by_cases hd : ∃ p ∈ rr.u, p.1 = k
    ·rw [h n rr (by omega) hr hd]
     split
     ·rw [step_ob, step_ob]
      exact updO_mem hd
     ·exact ih
    ·have e : ∀ b : Bool, ∀ s : St, (if b = true then s.step g.2 rr else s).ob k = s.ob k := by
      intro b s
      cases b
      ·rfl
      ·simp only [if_true]
       rw [step_ob, updO_other fun p hp e => hd ⟨p, hp, e⟩]
     rw [e, e]
     exact ih
theorem foldN_below {L : Nat → Bool} {i : Nat} : ∀ {n : Nat}, i ≤ n → (∀ j, i ≤ j → L j = false) → foldN l rs st L n = foldN l rs st L i
 | 0, h, _ => by rw [show i = 0 by omega]
 | n + 1, h, hL => by
  rcases Nat.lt_or_ge n i with h1 | h1
  ·rw [show i = n + 1 by omega]
  ·simp only [foldN, hL n h1, Bool.false_eq_true, if_false]
   exact foldN_below h1 hL
theorem runT_succ : ∀ {l : List GOp} {rs : List Rec} {st : St} {i : Nat} {g : GOp} {r : Rec}, l[i]? = some g → rs[i]? = some r → runT (l.take (i + 1)) (rs.take (i + 1)) st = (runT (l.take i) (rs.take i) st).step g.2 r
 | [], rs, st, i, g, r, h, _ => by simp at h
 | _ :: l, [], st, i, g, r, _, h => by simp at h
 | g' :: l, r' :: rs, st, 0, g, r, h, h' => by
  simp at h h'
  subst h
  subst h'
  simp [runT]
 | g' :: l, r' :: rs, st, i + 1, g, r, h, h' => by
  simp only [List.take_succ_cons, runT]
  exact runT_succ (by simpa using h) (by simpa using h')
theorem trace_get : ∀ {l : List GOp} {rs : List Rec} {st : St} {i : Nat} {g : GOp}, TraceOk P l rs st → l[i]? = some g → ∃ r, rs[i]? = some r ∧ StepOk P (runT (l.take i) (rs.take i) st) g r
 | [], rs, st, i, g, _, h => by simp at h
 | _ :: l, [], st, i, g, ht, h => ht.elim
 | g' :: l, r' :: rs, st, 0, g, ht, h => by
  simp at h
  subst h
  exact ⟨r', rfl, by simpa [runT] using ht.1⟩
 | g' :: l, r' :: rs, st, i + 1, g, ht, h => by
  obtain ⟨r, h1, h2⟩ := trace_get ht.2 (by simpa using h)
  exact ⟨r, by simpa using h1, by simpa only [List.take_succ_cons, runT] using h2⟩
theorem foldN_all {L : Nat → Bool} (ht : TraceOk P l rs st) : ∀ {i : Nat}, i ≤ l.length → (∀ j, j < i → L j = true) → foldN l rs st L i = runT (l.take i) (rs.take i) st
 | 0, _, _ => by simp [foldN, runT]
 | i + 1, h, hL => by
  have hg : l[i]? = some l[i] := List.getElem?_eq_getElem (by omega)
  obtain ⟨r, hr, _⟩ := trace_get ht hg
  rw [runT_succ hg hr]
  simp only [foldN, hL i (by omega), if_true, hg, hr]
  rw [foldN_all ht (by omega) fun j hj => hL j (by omega)]
end
/- Regions whose order is drawn: every order. -/
section
variable {W0 : World} {V0 : View} {Own : Fra} {P : Program} {N : Nat} {ops : Array Oper} {Q : Exit → Act → World → Prop} {l : List GOp} {rs : List Rec} {st : St} {prec : List (List Nat)}
def isL (listed : Array Bool) (i : Nat) : Bool := listed.getD i false
def Closed (ops : Array Oper) (listed : Array Bool) : Prop := ∀ i o, isL listed i = true → ops[i]? = some o → ∀ e ∈ o.after.toList, Region.binds .any e = true → isL listed e.on = true
theorem precOk_spec (h : precOk ops prec = true) {i : Nat} {o : Oper} (ho : ops[i]? = some o) :
  (∀ e ∈ o.after.toList, Region.binds .any e = true → e.on < i) ∧ ∀ j ∈ prec.getD i [], ∃ e ∈ o.after.toList, Region.binds .any e = true ∧ (e.on = j ∨ (e.on < i ∧ j ∈ prec.getD e.on [])) := by
 unfold precOk at h
 rw [List.all_eq_true] at h
 have hi : i < ops.size := by
  rcases Nat.lt_or_ge i ops.size with h' | h'
  ·exact h'
  ·simp [Array.getElem?_eq_none h'] at ho
 have := h i (List.mem_range.2 hi)
 rw [ho] at this
 simp only [Bool.and_eq_true, List.all_eq_true, List.any_eq_true, Bool.or_eq_true, Bool.not_eq_true'] at this
 refine ⟨fun e he hb => ?_, fun j hj => ?_⟩
 ·rcases this.1 e he with h1 | h1
  ·rw [hb] at h1; cases h1
  ·exact Nat.le_of_ble_eq_true h1
 ·obtain ⟨e, he, hb, hx⟩ := this.2 j hj
  refine ⟨e, he, hb, ?_⟩
  rcases hx with hx | ⟨hx, k, hk, hk'⟩
  ·exact .inl (Nat.eq_of_beq_eq_true hx)
  ·exact .inr ⟨Nat.le_of_ble_eq_true hx, by rw [← Nat.eq_of_beq_eq_true hk']; exact hk⟩
theorem prec_listed (hp : precOk ops prec = true) {listed : Array Bool} (hc : Closed ops listed) : ∀ (i : Nat) {o : Oper} {j : Nat}, ops[i]? = some o → (∀ e ∈ o.after.toList, Region.binds .any e = true → isL listed e.on = true) → j ∈ prec.getD i [] → isL listed j = true := by
 intro i
 induction i using Nat.strongRecOn with
 | _ i ih =>
  intro o j ho he hj
  obtain ⟨e, h1, h2, h3⟩ := (precOk_spec hp ho).2 j hj
  rcases h3 with h3 | ⟨h3, h4⟩
  ·rw [← h3]; exact he e h1 h2
  ·have hon := he e h1 h2
   cases hoe : ops[e.on]? with
   | none =>
    have hi : i < ops.size := by
     rcases Nat.lt_or_ge i ops.size with h' | h'
     ·exact h'
     ·simp [Array.getElem?_eq_none h'] at ho
    rw [Array.getElem?_eq_getElem (by omega)] at hoe
    cases hoe
   | some oe => exact ih e.on h3 hoe (hc e.on oe hon hoe) h4
theorem step_keys {st : St} {g : GOp} {r : Rec} (h : StepOk P st g r) : ∀ p ∈ r.u, p.1 ∈ r.acc.2 := by
 unfold StepOk at h
 split at h
 ·exact opR_keys h.2
 ·obtain ⟨b, _, h⟩ := h
  rcases h with ⟨_, _, h⟩ | ⟨_, rfl⟩
  ·exact opR_keys h
  ·intro p hp; cases hp
theorem StepOk.frame {s t : St} {g : GOp} {r : Rec} (h : StepOk P t g r) (hr : ∀ i ∈ g.reads, t.reg i = s.reg i) (ho : ∀ k, k ∈ r.acc.1 ∨ k ∈ r.acc.2 → t.ob k = s.ob k) : StepOk P s g r := by
 have hargs : ∀ x ∈ g.2.args, t.ev x = s.ev x := by
  intro x hx
  cases x with
  | c v => rfl
  | g i => rfl
  | r i => exact hr i (by simp only [GOp.reads, List.mem_append, List.mem_flatMap]; exact .inl ⟨_, hx, by simp [Arg.reg?]⟩)
 have key : opR P g.2 t.ev t.ob r.v r.u r.acc → opR P g.2 s.ev s.ob r.v r.u r.acc := fun h => opR_frame h hargs ho
 obtain ⟨gd, x⟩ := g
 cases gd with
 | none => exact ⟨h.1, key h.2⟩
 | some q =>
  obtain ⟨j, want⟩ := q
  obtain ⟨b, hb, hx⟩ := h
  refine ⟨b, by rw [← hr j (by simp [GOp.reads])]; exact hb, ?_⟩
  rcases hx with ⟨h1, h2, h3⟩ | hx
  ·exact .inl ⟨h1, h2, key h3⟩
  ·exact .inr hx
theorem accs_get {i : Nat} {r : Rec} (h : rs[i]? = some r) : (rs.map (·.acc))[i]? = some r.acc := by simp [h]
theorem isL_set {listed : Array Bool} {i j : Nat} (hi : i < listed.size) : isL (listed.setIfInBounds i true) j = if j = i then true else isL listed j := by
 unfold isL
 simp only [Array.getD_eq_getD_getElem?]
 by_cases h : j = i
 ·subst h
  rw [if_pos rfl, Array.getElem?_setIfInBounds_self_of_lt hi]
  rfl
 ·rw [if_neg h, Array.getElem?_setIfInBounds_ne (Ne.symm h)]
theorem drawn_sound (hok : okGs P N ops ops.toList l = true) (ht : TraceOk P l rs st) (hp : precOk ops prec = true) (hrc : pairsOk regClash prec 0 [] l = true) (hac : accsOk prec (rs.map (·.acc)) = true)
  (hQ : ∀ a' w' V' G', Rel W0 V0 Own N (runT l rs st) a' w' V' G' → Q .normal a' w') :
  ∀ (fuel : Nat) (listed : Array Bool) (a : Act) (w : World) (V : View) (G : Ctx), listed.size = ops.size → Closed ops listed → (List.range ops.size).countP (fun i => !isL listed i) ≤ fuel →
   Rel W0 V0 Own N (foldN l rs st (isL listed) ops.size) a w V G → wpAny P .any ops Q fuel listed a w := by
 have hlen : ops.size = l.length := by rw [← okGs_len hok, Array.length_toList]
 have hR := (pairsOk_spec hrc).2
 have hA := (pairsOk_spec hac).2
 simp only [Nat.zero_add] at hR hA
 have hopg : ∀ i, i < ops.size → ∃ o g r, ops[i]? = some o ∧ l[i]? = some g ∧ rs[i]? = some r ∧ StepOk P (runT (l.take i) (rs.take i) st) g r ∧ okG P N ops o g = true := by
  intro i hi
  have h1 : ops[i]? = some ops[i] := Array.getElem?_eq_getElem hi
  have h2 : l[i]? = some (l[i]'(by omega)) := List.getElem?_eq_getElem (by omega)
  obtain ⟨r, h3, h4⟩ := trace_get ht h2
  refine ⟨_, _, r, h1, h2, h3, h4, ?_⟩
  have : ∀ {os : List Oper} {gs : List GOp} {i : Nat} {o : Oper} {g : GOp}, okGs P N ops os gs = true → os[i]? = some o → gs[i]? = some g → okG P N ops o g = true := by
   intro os
   induction os with
   | nil => intro gs i o g _ h; simp at h
   | cons o' os ih =>
    intro gs i o g h h1 h2
    cases gs with
    | nil => simp at h2
    | cons g' gs =>
     simp only [okGs, Bool.and_eq_true] at h
     cases i with
     | zero => simp at h1 h2; subst h1; subst h2; exact h.1
     | succ i => exact ih h.2 (by simpa using h1) (by simpa using h2)
  exact this hok (by rw [Array.getElem?_toList]; exact h1) h2
 -- all are listed
 have hend : ∀ (listed : Array Bool) (a : Act) (w : World) (V : View) (G : Ctx), (∀ i, i < ops.size → isL listed i = true) → Rel W0 V0 Own N (foldN l rs st (isL listed) ops.size) a w V G → Q .normal a w := by
  intro listed a w V G hall hr
  rw [foldN_all ht (by omega) hall] at hr
  refine hQ a w V G ?_
  have e2 : rs.take ops.size = rs := by
   refine List.take_of_length_le ?_
   have : ∀ {l : List GOp} {rs : List Rec} {st : St}, TraceOk P l rs st → rs.length = l.length := by
    intro l
    induction l with
    | nil => intro rs st h; cases rs with | nil => rfl | cons _ _ => exact h.elim
    | cons g l ih => intro rs st h; cases rs with | nil => exact h.elim | cons r rs => simp [ih h.2]
   rw [this ht]; omega
  rwa [List.take_of_length_le (by omega), e2] at hr
 have hready : ∀ (listed : Array Bool), Region.ready .any ops listed = [] → listed.size = ops.size → ∀ i, i < ops.size → isL listed i = true := by
  intro listed hr hsz i
  induction i using Nat.strongRecOn with
  | _ i ih =>
   intro hi
   cases hb : isL listed i with
   | true => rfl
   | false =>
    exfalso
    have hmem : i ∈ Region.ready .any ops listed := by
     unfold Region.ready
     rw [List.mem_filter]
     refine ⟨List.mem_range.2 hi, ?_⟩
     have h1 : ops[i]? = some ops[i] := Array.getElem?_eq_getElem hi
     have hg : listed.getD i true = false := by
      unfold isL at hb
      simp only [Array.getD_eq_getD_getElem?] at hb ⊢
      rw [Array.getElem?_eq_getElem (by omega)] at hb ⊢
      exact hb
     rw [hg, h1]
     simp only [Bool.not_false, Bool.true_and, Option.map_some, Option.getD_some]
     rw [Array.all_eq_true']
     intro e he
     have he' : e ∈ (ops[i]).after.toList := by simpa using he
     by_cases hbd : Region.binds .any e = true
     ·have := (precOk_spec hp h1).1 e he' hbd
      have h2 := ih e.on this (by omega)
      unfold isL at h2
      simp [h2]
     ·simp [hbd]
    rw [hr] at hmem
    cases hmem
 intro fuel
 induction fuel with
 | zero =>
  intro listed a w V G hsz hc hcount hr
  have hall : ∀ i, i < ops.size → isL listed i = true := by
   intro i hi
   have h0 : (List.range ops.size).countP (fun i => !isL listed i) = 0 := by omega
   rw [List.countP_eq_zero] at h0
   have := h0 i (List.mem_range.2 hi)
   simpa using this
  refine ⟨?_, hend listed a w V G hall hr⟩
  unfold Region.ready
  rw [List.filter_eq_nil_iff]
  intro i hi
  have := hall i (List.mem_range.1 hi)
  have hg : listed.getD i true = true := by
   unfold isL at this
   simp only [Array.getD_eq_getD_getElem?] at this ⊢
   cases hh : listed[i]? with
   | none => rfl
   | some b => rw [hh] at this; exact this
  simp [hg]
 | succ fuel ih =>
  intro listed a w V G hsz hc hcount hr
  refine ⟨fun hrd => hend listed a w V G (hready listed hrd hsz) hr, fun i hi => ?_⟩
  unfold Region.ready at hi
  rw [List.mem_filter] at hi
  obtain ⟨hi, hx⟩ := hi
  have hi := List.mem_range.1 hi
  obtain ⟨o, g, r, h1, h2, h3, h4, h5⟩ := hopg i hi
  rw [h1] at hx
  simp only [Option.map_some, Option.getD_some, Bool.and_eq_true, Bool.not_eq_true'] at hx
  obtain ⟨hnl, hedge⟩ := hx
  have hnl' : isL listed i = false := by
   unfold isL
   simp only [Array.getD_eq_getD_getElem?] at hnl ⊢
   rw [Array.getElem?_eq_getElem (by omega)] at hnl ⊢
   exact hnl
  have hedges : ∀ e ∈ o.after.toList, Region.binds .any e = true → isL listed e.on = true := by
   intro e he hb
   rw [Array.all_eq_true'] at hedge
   have := hedge e (by simpa using he)
   rw [hb] at this
   simpa [isL] using this
  have hbefore : ∀ j, j ∈ prec.getD i [] → isL listed j = true := fun j hj => prec_listed hp hc i h1 hedges hj
  have hafter : ∀ j, j < ops.size → i ∈ prec.getD j [] → isL listed j = false := by
   intro j hj hij
   cases hb : isL listed j with
   | false => rfl
   | true =>
    obtain ⟨oj, _, _, hoj, _⟩ := hopg j hj
    have := prec_listed hp hc j hoj (hc j oj hb hoj) hij
    rw [hnl'] at this
    cases this
  -- who writes what this one looks at, or writes
  have hbelow : foldN l rs st (fun j => decide (j < i)) ops.size = runT (l.take i) (rs.take i) st := by
   rw [foldN_below (i := i) (by omega) (fun j hj => by simp; omega)]
   exact foldN_all ht (by omega) fun j hj => by simp [hj]
  have hbelow' : foldN l rs st (fun j => decide (j < i + 1)) ops.size = (runT (l.take i) (rs.take i) st).step g.2 r := by
   rw [foldN_below (i := i + 1) (by omega) (fun j hj => by simp; omega), foldN_all ht (by omega) fun j hj => by simp [hj]]
   exact runT_succ h2 h3
  have hregs : ∀ x, (x ∈ g.reads ∨ x ∈ g.writes) → ∀ j gj, j < ops.size → l[j]? = some gj → gj.2.dst = some x → j ≠ i → isL listed j = decide (j < i) := by
   intro x hx j gj hj hgj hd hne
   have hw : x ∈ gj.writes := by simp [GOp.writes, hd]
   rcases Nat.lt_or_ge j i with hlt | hge
   ·have hcl : regClash gj g = true := by
     unfold regClash
     rcases hx with hx | hx
     ·rw [meets_iff.2 ⟨x, hw, hx⟩]; simp
     ·rw [show meets gj.writes g.writes = true from meets_iff.2 ⟨x, hw, hx⟩]; simp
    rw [hbefore j (hR j i gj g hlt hgj h2 hcl)]
    simp [hlt]
   ·have hlt : i < j := by omega
    have hcl : regClash g gj = true := by
     unfold regClash
     rcases hx with hx | hx
     ·rw [show meets g.reads gj.writes = true from meets_iff.2 ⟨x, hx, hw⟩]; simp
     ·rw [show meets g.writes gj.writes = true from meets_iff.2 ⟨x, hx, hw⟩]; simp
    rw [hafter j hj (hR i j g gj hlt h2 hgj hcl)]
    simp; omega
  have hobs : ∀ k, (k ∈ r.acc.1 ∨ k ∈ r.acc.2) → ∀ j rj, j < ops.size → rs[j]? = some rj → (∃ p ∈ rj.u, p.1 = k) → j ≠ i → isL listed j = decide (j < i) := by
   intro k hk j rj hj hrj hd hne
   obtain ⟨oj, gj, rj', _, hgj, hrj', hsj, _⟩ := hopg j hj
   rw [hrj] at hrj'
   cases hrj'
   obtain ⟨p, hp', rfl⟩ := hd
   have hw : p.1 ∈ rj.acc.2 := step_keys hsj p hp'
   rcases Nat.lt_or_ge j i with hlt | hge
   ·have hcl : accClash rj.acc r.acc = true := by
     unfold accClash
     rw [show meets rj.acc.2 (r.acc.1 ++ r.acc.2) = true from meets_iff.2 ⟨p.1, hw, List.mem_append.2 hk⟩]
     simp
    rw [hbefore j (hA j i _ _ hlt (accs_get hrj) (accs_get h3) hcl)]
    simp [hlt]
   ·have hlt : i < j := by omega
    have hcl : accClash r.acc rj.acc = true := by
     unfold accClash
     rcases hk with hk | hk
     ·rw [show meets r.acc.1 rj.acc.2 = true from meets_iff.2 ⟨p.1, hk, hw⟩]; simp
     ·rw [show meets r.acc.2 (rj.acc.1 ++ rj.acc.2) = true from meets_iff.2 ⟨p.1, hk, List.mem_append.2 (.inr hw)⟩]; simp
    rw [hafter j hj (hA i j _ _ hlt (accs_get h3) (accs_get hrj) hcl)]
    simp; omega
  have hself : isL listed i = decide (i < i) := by rw [hnl']; simp
  have hstep : StepOk P (foldN l rs st (isL listed) ops.size) g r := by
   refine h4.frame (fun x hx => ?_) (fun k hk => ?_)
   ·rw [← hbelow]
    refine foldN_reg fun j gj hj hgj hd => ?_
    by_cases hji : j = i
    ·subst hji; exact hself.symm
    ·exact (hregs x (.inl hx) j gj hj hgj hd hji).symm
   ·rw [← hbelow]
    refine foldN_ob fun j rj hj hrj hd => ?_
    by_cases hji : j = i
    ·subst hji; exact hself.symm
    ·exact (hobs k hk j rj hj hrj hd hji).symm
  refine gop_sound h1 h5 hstep hr _ fun a' w' V' G' hr' => ?_
  have hsz' : i < listed.size := by omega
  refine ih (listed.setIfInBounds i true) a' w' V' G' (by simp [hsz]) ?_ ?_ (hr'.same ⟨fun x => ?_, fun k => ?_⟩)
  ·intro j oj hlj hoj e he hb
   rw [isL_set hsz'] at hlj ⊢
   split
   ·rfl
   ·by_cases hji : j = i
    ·subst hji
     rw [h1] at hoj
     cases hoj
     exact hedges e he hb
    ·rw [if_neg hji] at hlj
     exact hc j oj hlj hoj e he hb
  ·have hlt : (List.range ops.size).countP (fun j => !isL (listed.setIfInBounds i true) j) < (List.range ops.size).countP (fun j => !isL listed j) := by
    have gen : ∀ (xs : List Nat), i ∈ xs → xs.countP (fun j => !isL (listed.setIfInBounds i true) j) < xs.countP (fun j => !isL listed j) := by
     intro xs
     have hle : ∀ (ys : List Nat), ys.countP (fun j => !isL (listed.setIfInBounds i true) j) ≤ ys.countP (fun j => !isL listed j) := by
      intro ys
      refine List.countP_mono_left fun j _ hj => ?_
      rw [isL_set hsz'] at hj
      split at hj
      ·simp at hj
      ·exact hj
     induction xs with
     | nil => intro h; cases h
     | cons y ys ihx =>
      intro hmem
      rw [List.countP_cons, List.countP_cons]
      rcases List.mem_cons.1 hmem with rfl | hmem
      ·have := hle ys
       rw [isL_set hsz', if_pos rfl, hnl']
       simp
       omega
      ·have := ihx hmem
       have h2 : (if (!isL (listed.setIfInBounds i true) y) = true then 1 else 0) ≤ (if (!isL listed y) = true then 1 else 0) := by
        rw [isL_set hsz']
        by_cases hy : y = i
        ·rw [if_pos hy]; simp
        ·rw [if_neg hy]; exact Nat.le_refl _
       omega
    exact gen _ (List.mem_range.2 hi)
   omega
  ·rw [step_reg]
   by_cases hd : g.2.dst = some x
   ·rw [if_pos hd]
    have e1 : (foldN l rs st (isL (listed.setIfInBounds i true)) ops.size).reg x = (foldN l rs st (fun j => decide (j < i + 1)) ops.size).reg x := by
     refine foldN_reg fun j gj hj hgj hdj => ?_
     rw [isL_set hsz']
     by_cases hji : j = i
     ·rw [if_pos hji]; simp; omega
     ·rw [if_neg hji, hregs x (.inr (by simp [GOp.writes, hd])) j gj hj hgj hdj hji]
      simp; omega
    rw [e1, hbelow', step_reg, if_pos hd]
   ·rw [if_neg hd]
    refine foldN_reg fun j gj hj hgj hdj => ?_
    rw [isL_set hsz', if_neg]
    intro e
    subst e
    rw [h2] at hgj
    cases hgj
    exact hd hdj
  ·rw [step_ob]
   by_cases hd : ∃ p ∈ r.u, p.1 = k
   ·have hkw : k ∈ r.acc.2 := by
     obtain ⟨p, hp', rfl⟩ := hd
     exact step_keys h4 p hp'
    have e1 : (foldN l rs st (isL (listed.setIfInBounds i true)) ops.size).ob k = (foldN l rs st (fun j => decide (j < i + 1)) ops.size).ob k := by
     refine foldN_ob fun j rj hj hrj hdj => ?_
     rw [isL_set hsz']
     by_cases hji : j = i
     ·rw [if_pos hji]; simp; omega
     ·rw [if_neg hji, hobs k (.inr hkw) j rj hj hrj hdj hji]
      simp; omega
    rw [e1, hbelow', step_ob]
    exact updO_mem hd
   ·rw [updO_other fun p hp e => hd ⟨p, hp, e⟩]
    refine foldN_ob fun j rj hj hrj hdj => ?_
    rw [isL_set hsz', if_neg]
    intro e
    subst e
    rw [h3] at hrj
    cases hrj
    exact hd hdj
end
/- Objects that get other names; objects that are written no more; calls that hand objects on. -/
/-! Pseudo operations. -/
def renA : List (Nat × Nat) → List (Nat × Ob) → List (Nat × Nat) → List (Nat × Ob)
 | _, _, [] => []
 | m, objs, (k, k') :: r => match optA objs k with
  | some o => (k', renOb m o) :: renA m objs r
  | none => renA m objs r
def keepR : List Nat → (Nat → AV) → List (Nat × Nat) → List (Nat × AV)
 | [], _, _ => []
 | i :: r, f, m => (i, ren m (f i)) :: keepR r f m
def St.mv (st : St) (rs : List Nat) (m : List (Nat × Nat)) : St := ⟨keepR rs st.reg m, renA m st.objs m⟩
theorem keepR_reg {f : Nat → AV} {m : List (Nat × Nat)} : ∀ {rs : List Nat} {i : Nat}, getA .dead (keepR rs f m) i = ren m (f i) ∨ getA .dead (keepR rs f m) i = .dead
 | [], i => .inr rfl
 | j :: r, i => by
  simp only [keepR, getA]
  cases hb : Nat.beq j i with
  | true =>
   left
   rw [Nat.eq_of_beq_eq_true hb]
   rfl
  | false => exact keepR_reg (rs := r)
theorem renA_ob {m : List (Nat × Nat)} {objs : List (Nat × Ob)} {k' : Nat} : ∀ {m' : List (Nat × Nat)}, (∀ x ∈ m', ∀ y ∈ m', x.2 = y.2 → x = y) → optA (renA m objs m') k' = (optA (invL m') k').bind fun k => (optA objs k).map (renOb m)
 | [], _ => rfl
 | (a, b) :: r, hu => by
  have ih := renA_ob (m := m) (objs := objs) (k' := k') (m' := r) fun x hx y hy => hu x (List.mem_cons_of_mem _ hx) y (List.mem_cons_of_mem _ hy)
  simp only [renA, invL, optA]
  cases hb : Nat.beq b k' with
  | true =>
   simp only [cond_true, Option.bind_some]
   cases ho : optA objs a with
   | some o => simp [optA, hb]
   | none =>
    simp only [Option.map_none]
    rw [ih]
    cases hk : optA (invL r) k' with
    | none => rfl
    | some a' =>
     have hm := invL_mem.1 (optA_mem hk)
     have := hu (a, b) List.mem_cons_self (a', k') (List.mem_cons_of_mem _ hm) (Nat.eq_of_beq_eq_true hb)
     simp only [Prod.mk.injEq] at this
     rw [← this.1]
     simp [ho]
  | false =>
   simp only [cond_false]
   cases ho : optA objs a with
   | some o => simp only [optA, hb, cond_false]; exact ih
   | none => exact ih
section
variable {W0 : World} {V0 : View} {Own : Fra} {P : Program} {N : Nat} {w : World} {V : View} {G : Ctx} {st : St} {a : Act}
theorem rel_mv {rs : List Nat} {m : List (Nat × Nat)} (h : keysOk m = true) (hkey : ∀ k k' b, optA m k = some k' → Own.key k b → Own.key k' b) (hcov : ∀ k s, Own.ctx k = some s → optA m k = some k) (hr : Rel W0 V0 Own N st a w V G) : Rel W0 V0 Own N (st.mv rs m) a w V (renC m G) := by
 refine ⟨?_, fun i => ?_, hr.size, hr.defers, fun k s e => ?_⟩
 ·have := hr.sat.ren h hkey
  have e : (st.mv rs m).ob = renM m st.ob := by
   funext k'
   exact renA_ob (keysOk_spec h).2
  rw [e]
  exact this
 ·rcases keepR_reg (f := st.reg) (m := m) (rs := rs) (i := i) with e | e
  ·show Rep V (renC m G) (getA .dead (keepR rs st.reg m) i) _
   rw [e]
   exact (hr.regs i).ren (renC_spec h)
  ·show Rep V (renC m G) (getA .dead (keepR rs st.reg m) i) _
   rw [e]
   simp only [Rep]
 ·rw [renC_spec h k k (hcov k s e)]
  exact hr.ini k s e
end
/- Objects that are written no more. -/
def fzB (cs : List AV) (o l : Nat) : AV := bif Nat.ble (o + l) cs.length then .sl (((cs.drop o).take l).map fun c => [c]) else .dead
mutual
/-- The same value, where object k is written no more. -/
def fz (k : Nat) (ob : Ob) : AV → AV
 | .hs k' v o l => bif Nat.beq k' k then (match ob with | .arr ver _ xs => if v = ver then .sl ((xs.drop o).take l) else .dead | .rarr ver cs => if v = ver then .sl (((cs.drop o).take l).map fun c => [c]) else .dead | _ => .dead) else .hs k' v o l
 | .er k' v i o => bif Nat.beq k' k then (match ob with | .arr ver _ xs => if v = ver then (match xs[i]? with | some c => .rp (c.drop o) | none => .dead) else .dead | _ => .dead) else .er k' v i o
 | .ref k' o => bif Nat.beq k' k then (match ob with | .pbox cs => .rp (cs.drop o) | .box cs => .rp (cs.drop o) | _ => .dead) else .ref k' o
 | .bs k' o l => bif Nat.beq k' k then (match ob with | .pbox cs => fzB cs o l | .box cs => fzB cs o l | _ => .dead) else .bs k' o l
 | .fn f caps => .fn f (fzL k ob caps)
 | .tup xs => .tup (fzL k ob xs)
 | .int k n => .int k n
 | .bool b => .bool b
 | .str s => .str s
 | .nilp => .nilp
 | .nilf => .nilf
 | .nili => .nili
 | .sl xs => .sl xs
 | .fl xs => .fl xs
 | .rp cs => .rp cs
 | .ifc t x => .ifc t x
 | .agg cs => .agg cs
 | .mag cs => mkMag (fzL k ob cs)
 | .mif t x => (match fz k ob x with | .rp c => .ifc t (.rp c) | y => .mif t y)
 | .anyb => .anyb
 | .mfn f bs => .mfn f (fzL k ob bs)
 | .yl l => .yl l
 | .dead => .dead
def fzL (k : Nat) (ob : Ob) : List AV → List AV
 | [] => []
 | x :: xs => fz k ob x :: fzL k ob xs
end
def fzOb (k : Nat) (ob : Ob) : Ob → Ob
 | .box cs => .box (fzL k ob cs)
 | .pbox cs => .pbox cs
 | .arr v e xs => .arr v e xs
 | .rarr v cs => .rarr v (fzL k ob cs)
def fzR (k : Nat) (ob : Ob) : List (Nat × AV) → List (Nat × AV)
 | [] => []
 | (i, x) :: r => (i, fz k ob x) :: fzR k ob r
def fzO (k : Nat) (ob : Ob) : List (Nat × Ob) → List (Nat × Ob)
 | [] => []
 | (i, x) :: r => bif Nat.beq i k then fzO k ob r else (i, fzOb k ob x) :: fzO k ob r
def frzOk : Ob → Bool
 | .box cs => isPL cs
 | .rarr _ cs => isPL cs
 | _ => true
def St.frz (st : St) (k : Nat) (ob : Ob) : St := ⟨fzR k ob st.regs, fzO k ob st.objs⟩
theorem fzR_reg {k : Nat} {ob : Ob} : ∀ {r : List (Nat × AV)} {i : Nat}, getA .dead (fzR k ob r) i = fz k ob (getA .dead r i)
 | [], i => by simp [getA, fzR, fz]
 | (j, x) :: r, i => by
  simp only [fzR, getA]
  cases Nat.beq j i
  ·exact fzR_reg
  ·rfl
theorem fzO_ob {k : Nat} {ob : Ob} : ∀ {r : List (Nat × Ob)} {i : Nat}, optA (fzO k ob r) i = if i = k then none else (optA r i).map (fzOb k ob)
 | [], i => by simp [optA, fzO]
 | (j, x) :: r, i => by
  simp only [fzO, optA]
  cases hb : Nat.beq j k with
  | true =>
   have hjk := Nat.eq_of_beq_eq_true hb
   simp only [cond_true]
   rw [fzO_ob]
   by_cases h : i = k
   ·rw [if_pos h, if_pos h]
   ·rw [if_neg h, if_neg h, beq_ne (i := j) (j := i) (by omega)]
    rfl
  | false =>
   simp only [cond_false, optA]
   have hjk : j ≠ k := fun e => by rw [e, Nat.beq_refl] at hb; cases hb
   cases hi : Nat.beq j i with
   | true =>
    have := Nat.eq_of_beq_eq_true hi
    simp only [cond_true]
    rw [if_neg (by omega)]
    rfl
   | false =>
    simp only [cond_false]
    exact fzO_ob
section
variable {W0 : World} {V0 : View} {Own : Fra} {P : Program} {N : Nat} {w : World} {V V' : View} {G G' : Ctx} {st : St} {a : Act} {μ : Nat → Option Ob}
/-- What a value of object k is, once that is written no more. -/
structure Froz (V V' : View) (G G' : Ctx) (k : Nat) (ob : Ob) : Prop where
 le : V.le V'
 other : ∀ j, j ≠ k → G' j = G j
 hs : ∀ ver esz xs off len v, ob = .arr ver esz xs → Rep V G (.hs k ver off len) v → RepP V' (.sl ((xs.drop off).take len)) v
 er : ∀ ver esz xs i off v c, ob = .arr ver esz xs → xs[i]? = some c → Rep V G (.er k ver i off) v → RepP V' (.rp (c.drop off)) v
 ref : ∀ cs off v, (ob = .pbox cs ∨ ob = .box cs) → Rep V G (.ref k off) v → RepP V' (.rp (cs.drop off)) v
 hsr : ∀ ver cs off len v, ob = .rarr ver cs → Rep V G (.hs k ver off len) v → RepP V' (.sl (((cs.drop off).take len).map fun c => [c])) v
 bs : ∀ cs off len v, (ob = .pbox cs ∨ ob = .box cs) → off + len ≤ cs.length → Rep V G (.bs k off len) v → RepP V' (.sl (((cs.drop off).take len).map fun c => [c])) v
mutual
theorem fz_rep {k : Nat} {ob : Ob} (F : Froz V V' G G' k ob) : ∀ {x : AV} {v : Value}, Rep V G x v → Rep V' G' (fz k ob x) v := by
 intro x v h
 cases x <;> simp only [fz]
 case ref j off =>
  cases hb : Nat.beq j k with
  | true =>
   obtain rfl := Nat.eq_of_beq_eq_true hb
   simp only [cond_true]
   split
   ·exact (F.ref _ off v (.inl rfl) h).rep _
   ·exact (F.ref _ off v (.inr rfl) h).rep _
   ·simp only [Rep]
  | false =>
   have hne : j ≠ k := fun e => by rw [e, Nat.beq_refl] at hb; cases hb
   simp only [cond_false, Rep] at h ⊢
   rw [F.other j hne]
   exact h
 case bs j off len =>
  have key : ∀ {cs : List AV} {v : Value}, (ob = .pbox cs ∨ ob = .box cs) → Rep V G (.bs k off len) v → Rep V' G' (fzB cs off len) v := by
   intro cs v hcs h
   unfold fzB
   cases hl : Nat.ble (off + len) cs.length with
   | false => simp only [cond_false, Rep]
   | true =>
    simp only [cond_true]
    exact (F.bs _ _ _ v hcs (Nat.le_of_ble_eq_true hl) h).rep _
  cases hb : Nat.beq j k with
  | true =>
   obtain rfl := Nat.eq_of_beq_eq_true hb
   simp only [cond_true]
   split
   ·exact key (.inl rfl) h
   ·exact key (.inr rfl) h
   ·simp only [Rep]
  | false =>
   have hne : j ≠ k := fun e => by rw [e, Nat.beq_refl] at hb; cases hb
   simp only [cond_false, Rep] at h ⊢
   rw [F.other j hne]
   exact h
 case hs j ver off len =>
  cases hb : Nat.beq j k with
  | true =>
   obtain rfl := Nat.eq_of_beq_eq_true hb
   simp only [cond_true]
   split
   ·split
    ·rename_i e
     subst e
     exact (F.hs _ _ _ off len v rfl h).rep _
    ·simp only [Rep]
   ·split
    ·rename_i e
     subst e
     exact (F.hsr _ _ off len v rfl h).rep _
    ·simp only [Rep]
   ·simp only [Rep]
  | false =>
   have hne : j ≠ k := fun e => by rw [e, Nat.beq_refl] at hb; cases hb
   simp only [cond_false, Rep] at h ⊢
   rw [F.other j hne]
   exact h
 case er j ver i off =>
  cases hb : Nat.beq j k with
  | true =>
   obtain rfl := Nat.eq_of_beq_eq_true hb
   simp only [cond_true]
   split
   ·split
    ·rename_i e
     subst e
     split
     ·rename_i c hc
      exact (F.er _ _ _ i off v c rfl hc h).rep _
     ·simp only [Rep]
    ·simp only [Rep]
   ·simp only [Rep]
  | false =>
   have hne : j ≠ k := fun e => by rw [e, Nat.beq_refl] at hb; cases hb
   simp only [cond_false, Rep] at h ⊢
   rw [F.other j hne]
   exact h
 case fn f caps =>
  simp only [Rep] at h ⊢
  obtain ⟨cv, e, r⟩ := h
  exact ⟨cv, e, fz_repL F r⟩
 case mfn f caps =>
  simp only [Rep] at h ⊢
  obtain ⟨cv, e, r⟩ := h
  exact ⟨cv, e, fz_repL F r⟩
 case tup xs =>
  simp only [Rep] at h ⊢
  obtain ⟨cv, e, r⟩ := h
  exact ⟨cv, e, fz_repL F r⟩
 case mag xs =>
  simp only [Rep] at h
  obtain ⟨cv, e, r⟩ := h
  rw [e]
  exact mkMag_rep (fz_repL F r)
 case mif t x =>
  simp only [Rep] at h
  obtain ⟨u, e, r⟩ := h
  have := fz_rep F r
  split
  ·rename_i c hc
   rw [hc] at this
   simp only [Rep] at this
   simp only [Rep, RepP]
   exact ⟨u, e, by simpa only [RepP] using this⟩
  ·simp only [Rep]
   exact ⟨u, e, this⟩
 case dead => simp only [Rep]
 all_goals exact RepP.mono F.le h
theorem fz_repL {k : Nat} {ob : Ob} (F : Froz V V' G G' k ob) : ∀ {x : List AV} {v : List Value}, RepL V G x v → RepL V' G' (fzL k ob x) v := by
 intro x v h
 cases x with
 | nil => simpa only [fzL, RepL] using h
 | cons x xs =>
  simp only [fzL, RepL] at h ⊢
  obtain ⟨y, r, e, p, q⟩ := h
  exact ⟨y, r, e, fz_rep F p, fz_repL F q⟩
end
theorem rel_frz {k : Nat} {ob : Ob} (hm : st.ob k = some ob) (hok : frzOk ob = true) (hkey : ∀ b, ¬ Own.key k b) (hctx : Own.ctx k = none) (hr : Rel W0 V0 Own N st a w V G) : ∃ V' G', V.le V' ∧ Rel W0 V0 Own N (st.frz k ob) a w V' G' := by
 have hs := hr.sat
 obtain ⟨s, hg, hob⟩ := hs.obs k ob hm
 -- the block, if there is one
 obtain ⟨V', hle, hview, hnew, hpriv, F⟩ : ∃ V', V.le V' ∧ (∀ b o v, V' b o = some v → w.cell? ⟨b, o, none⟩ = some v) ∧ (∀ b o, b < W0.heap.size → V' b o = V b o) ∧ (∀ b, s.block ≠ some b → ∀ o, V' b o = V b o) ∧
   Froz V V' G (fun j => if j = k then none else G j) k ob := by
  have hother : ∀ j, j ≠ k → (fun j => if j = k then none else G j) j = G j := fun j hj => if_neg hj
  cases hbl : s.block with
  | none =>
   refine ⟨V, View.le_refl _, hs.view, fun _ _ _ => rfl, fun _ _ _ => rfl, View.le_refl _, hother, ?_, ?_, ?_, ?_, ?_⟩
   ·rintro ver esz xs off len v rfl h
    obtain ⟨loc, A, cap, hg', hv, hlc, hol, hnc, hq⟩ := hs_open hs h hm
    rw [hg] at hg'
    cases hg'
    rcases hq with ⟨rfl, rfl, rfl, rfl⟩ | ⟨b, of, tot, us, T, rfl, _⟩
    ·have : len = 0 := by simp at hol; omega
     subst this
     simp only [RepP]
     exact ⟨none, 0, by simpa using hv, by simp, .inl (by simp)⟩
    ·simp [Sh.block] at hbl
   ·rintro ver esz xs i off v c rfl hc h
    simp only [Rep] at h
    obtain ⟨_, ver2, esz', nn, loc, hg', hle', hq⟩ := h
    rw [hg] at hg'
    cases hg'
    obtain ⟨rfl, rfl, rfl, hnone, hloc⟩ := hob
    obtain ⟨b, o', tot, rfl, _⟩ := hq rfl
    simp [Sh.block] at hbl
   ·intro cs off v hcs h
    simp only [Rep] at h
    obtain ⟨b, hg', _⟩ := h
    rw [hg] at hg'
    cases hg'
    simp [Sh.block] at hbl
   ·rintro ver cs off len v rfl h
    obtain ⟨loc, A, cap, hg', hv, hlc, hol, hnc, hq⟩ := hs_openR hs.obs h hm
    rw [hg] at hg'
    cases hg'
    rcases hq with ⟨rfl, rfl, rfl, rfl⟩ | ⟨b, of, tot, us, T, rfl, _⟩
    ·have : len = 0 := by simp at hol; omega
     subst this
     simp only [RepP]
     exact ⟨none, 0, by simpa using hv, by simp, .inl (by simp)⟩
    ·simp [Sh.block] at hbl
   ·intro cs off len v hcs _ h
    simp only [Rep] at h
    obtain ⟨b, _, hg', _⟩ := h
    rw [hg] at hg'
    cases hg'
    simp [Sh.block] at hbl
  | some b =>
   obtain ⟨p1, p2, p3⟩ := hs.priv k s b hg hbl
   have hbig : W0.heap.size ≤ b := Nat.le_of_not_lt fun hlt => hkey b (hs.loc k s b hg hbl hlt)
   have hblk : ∃ (us : List Value) (T : TypeId), w.heap[b]? = some (.cells us.toArray T (0, 0)) := by
    cases s <;> cases ob <;> simp only [ObOk] at hob <;> simp only [Sh.block] at hbl
    ·cases hbl; obtain ⟨us, T, e, _⟩ := hob; exact ⟨us, T, e⟩
    ·cases hbl; obtain ⟨us, T, e, _⟩ := hob; exact ⟨us, T, e⟩
    ·rename_i loc _ _ _
     cases loc with
     | none => cases hbl
     | some loc =>
      obtain ⟨b', o', tot⟩ := loc
      cases hbl
      obtain ⟨us, T, e, _⟩ := hob.2.2.2.2 _ _ _ rfl
      exact ⟨us, T, e⟩
    ·rename_i loc _ _
     cases loc with
     | none => cases hbl
     | some loc =>
      obtain ⟨b', o', tot⟩ := loc
      cases hbl
      obtain ⟨us, T, e, _⟩ := hob.2.2.2.2 _ _ _ rfl
      exact ⟨us, T, e⟩
   obtain ⟨us, T, hh⟩ := hblk
   have hle : V.le (viewNew V b us) := by
    intro b' o v e
    unfold viewNew
    rw [if_neg]
    ·exact e
    ·intro e'
     rw [e', p3 o] at e
     cases e
   have hself : viewNew V b us b = fun i => us[i]? := by
    funext i
    unfold viewNew
    rw [if_pos rfl]
   refine ⟨viewNew V b us, hle, ?_, ?_, ?_, hle, hother, ?_, ?_, ?_, ?_, ?_⟩
   ·intro b' o v e
    unfold viewNew at e
    split at e
    ·rename_i hb
     subst hb
     exact cell_of hh e
    ·exact hs.view b' o v e
   ·intro b' o hlt
    unfold viewNew
    rw [if_neg (by omega)]
   ·intro b' hne o
    unfold viewNew
    rw [if_neg (fun e => hne (by rw [e]))]
   ·rintro ver esz xs off len v rfl h
    obtain ⟨loc, A, cap, hg', hv, hlc, hol, hnc, hq⟩ := hs_open hs h hm
    rw [hg] at hg'
    cases hg'
    have hlen : ((xs.drop off).take len).length = len := by simp; omega
    rcases hq with ⟨rfl, rfl, rfl, rfl⟩ | ⟨b', of, tot, us', T', rfl, hA, htot, hh', ht, hle', hr'⟩
    ·simp [Sh.block] at hbl
    ·simp only [Sh.block, Option.map_some, Option.some.injEq] at hbl
     subst hbl
     rw [hh] at hh'
     simp only [Option.some.injEq, Obj.cells.injEq] at hh'
     have hus : us' = us := by
      have := congrArg Array.toList hh'.1
      simpa using this.symm
     subst hus
     simp only [RepP]
     refine ⟨A, cap, by rw [hlen]; exact hv, by rw [hlen]; exact hlc, ?_⟩
     by_cases h0 : (xs.drop off).take len = []
     ·exact .inl h0
     ·right
      have hl0 : len ≠ 0 := fun e => h0 (by rw [e]; simp)
      refine ⟨_, _, esz, hA.resolve_left (by omega), ?_⟩
      rw [hself]
      exact ((hr'.drop off).take len).mono hle fun i y hy => hy
   ·rintro ver esz xs i off v c rfl hc h
    simp only [Rep] at h
    obtain ⟨_, ver2, esz', nn, loc, hg', hle', hq⟩ := h
    rw [hg] at hg'
    cases hg'
    obtain ⟨rfl, rfl, rfl, hnone, hloc⟩ := hob
    obtain ⟨b', o', tot, rfl, hin, hv⟩ := hq rfl
    obtain ⟨us', T', hh', ht, hle2, hr'⟩ := hloc b' o' tot rfl
    simp only [Sh.block, Option.map_some, Option.some.injEq] at hbl
    subst hbl
    rw [hh] at hh'
    simp only [Option.some.injEq, Obj.cells.injEq] at hh'
    have hus : us' = us := by
     have := congrArg Array.toList hh'.1
     simpa using this.symm
    subst hus
    simp only [RepP]
    refine ⟨_, _, hv, ?_⟩
    rw [hself]
    exact ((hr'.get hc).2.drop off).mono hle fun i y hy => hy
   ·intro cs off v hcs h
    simp only [Rep] at h
    obtain ⟨b', hg', hv⟩ := h
    rw [hg] at hg'
    cases hg'
    simp only [Sh.block, Option.some.injEq] at hbl
    subst hbl
    have hcells : ∃ us' T', w.heap[b']? = some (.cells us'.toArray T' (0, 0)) ∧ RepPL V cs us' ∧ ∀ u ∈ us', u.oneCell' = true := by
     rcases hcs with rfl | rfl
     ·exact hob
     ·obtain ⟨us', T', e, r, q⟩ := hob
      exact ⟨us', T', e, r.pure hok, q⟩
    obtain ⟨us', T', hh', hr', h1'⟩ := hcells
    rw [hh] at hh'
    simp only [Option.some.injEq, Obj.cells.injEq] at hh'
    have hus : us' = us := by
     have := congrArg Array.toList hh'.1
     simpa using this.symm
    subst hus
    simp only [RepP]
    refine ⟨b', off, hv, ?_⟩
    have hc : RepC (viewNew V b' us') (viewNew V b' us' b') 0 cs := viewNew_rep hr' hle h1'
    have := hc.drop off
    rwa [Nat.zero_add] at this
   ·rintro ver cs off len v rfl h
    obtain ⟨loc, A, cap, hg', hv, hlc, hol, hnc, hq⟩ := hs_openR hs.obs h hm
    rw [hg] at hg'
    cases hg'
    have hlen : (((cs.drop off).take len).map fun c => [c]).length = len := by simp; omega
    rcases hq with ⟨rfl, rfl, rfl, rfl⟩ | ⟨b', of, tot, us', T', rfl, hA, htot, hh', ht, hle', hr', h1'⟩
    ·simp [Sh.block] at hbl
    ·simp only [Sh.block, Option.map_some, Option.some.injEq] at hbl
     subst hbl
     rw [hh] at hh'
     simp only [Option.some.injEq, Obj.cells.injEq] at hh'
     have hus : us' = us := by
      have := congrArg Array.toList hh'.1
      simpa using this.symm
     subst hus
     simp only [RepP]
     refine ⟨A, cap, by rw [hlen]; exact hv, by rw [hlen]; exact hlc, ?_⟩
     by_cases h0 : ((cs.drop off).take len).map (fun c => [c]) = []
     ·exact .inl h0
     ·right
      have hl0 : len ≠ 0 := fun e => h0 (by rw [e]; simp)
      refine ⟨_, _, 1, hA.resolve_left (by omega), ?_⟩
      have hc : RepC (viewNew V b' us') (viewNew V b' us' b') of cs := RepC.of_vals ((hr'.pure hok).mono hle) fun j u hu => by
       refine ⟨?_, h1' u (List.mem_of_getElem? hu)⟩
       rw [hself]
       show us'[of + j]? = some u
       rw [List.getElem?_take] at hu
       split at hu
       ·rwa [List.getElem?_drop] at hu
       ·cases hu
      exact RepC.rows1 ((hc.drop off).take len)
   ·intro cs off len v hcs hlen h
    simp only [Rep] at h
    obtain ⟨b', cap, hg', hv, hlc⟩ := h
    rw [hg] at hg'
    cases hg'
    simp only [Sh.block, Option.some.injEq] at hbl
    subst hbl
    have hcells : ∃ us' T', w.heap[b']? = some (.cells us'.toArray T' (0, 0)) ∧ RepPL V cs us' ∧ ∀ u ∈ us', u.oneCell' = true := by
     rcases hcs with rfl | rfl
     ·exact hob
     ·obtain ⟨us', T', e, r, q⟩ := hob
      exact ⟨us', T', e, r.pure hok, q⟩
    obtain ⟨us', T', hh', hr', h1'⟩ := hcells
    rw [hh] at hh'
    simp only [Option.some.injEq, Obj.cells.injEq] at hh'
    have hus : us' = us := by
     have := congrArg Array.toList hh'.1
     simpa using this.symm
    subst hus
    have hl : (((cs.drop off).take len).map fun c => [c]).length = len := by simp; omega
    simp only [RepP]
    refine ⟨_, cap, by rw [hl]; exact hv, by rw [hl]; exact hlc, .inr ⟨b', off, 1, rfl, ?_⟩⟩
    have hc : RepC (viewNew V b' us') (viewNew V b' us' b') 0 cs := viewNew_rep hr' hle h1'
    have := hc.drop off
    rw [Nat.zero_add] at this
    exact RepC.rows1 (this.take len)
 refine ⟨V', fun j => if j = k then none else G j, hle, ?_, fun i => ?_, hr.size, hr.defers, fun j s' e => ?_⟩
 ·have e : (st.frz k ob).ob = fun i => if i = k then none else (st.ob i).map (fzOb k ob) := by
   funext i
   exact fzO_ob
  rw [e]
  refine ⟨hs.keep, hview, View.le_trans hs.vle hle, fun b o hb => by rw [hnew b o hb]; exact hs.vnew b o hb, fun j ob' e => ?_, fun j s' e => ?_, fun j s' b e hb => ?_, fun j j' s1 s2 b e1 e2 h1 h2 => ?_, fun j s' b e hb hlt => ?_, hr.sat.glob⟩
  ·by_cases hj : j = k
   ·rw [if_pos hj] at e; cases e
   ·rw [if_neg hj] at e ⊢
    obtain ⟨ob0, e0, rfl⟩ := Option.map_eq_some_iff.1 e
    obtain ⟨s0, hg0, ho0⟩ := hs.obs j ob0 e0
    refine ⟨s0, hg0, ?_⟩
    cases ob0 <;> cases s0 <;> simp only [fzOb, ObOk] at ho0 ⊢
    ·obtain ⟨us, T, e, r, q⟩ := ho0
     exact ⟨us, T, e, fz_repL F r, q⟩
    ·obtain ⟨us, T, e, r, q⟩ := ho0
     exact ⟨us, T, e, r.mono hle, q⟩
    ·obtain ⟨h1, h2, h3, h4, h5⟩ := ho0
     refine ⟨h1, h2, h3, h4, fun b o tot hl => ?_⟩
     obtain ⟨us, T, e, t, l, r⟩ := h5 b o tot hl
     exact ⟨us, T, e, t, l, r.mono hle (fun _ _ h => h)⟩
    ·obtain ⟨h1, h2, h3, h4, h5⟩ := ho0
     have hfl : ∀ l : List AV, (fzL k ob l).length = l.length := fun l => by
      induction l with
      | nil => rfl
      | cons x l ih => simp only [fzL, List.length_cons, ih]
     refine ⟨h1, h2, by rw [hfl]; exact h3, fun e => by rw [h4 e]; rfl, fun b o tot hl => ?_⟩
     obtain ⟨us, T, e, t, l, r, q⟩ := h5 b o tot hl
     exact ⟨us, T, e, t, l, fz_repL F r, q⟩
  ·by_cases hj : j = k
   ·rw [if_pos hj] at e; cases e
   ·rw [if_neg hj] at e ⊢
    obtain ⟨ob0, e0⟩ := hs.dom j s' e
    exact ⟨_, by rw [e0]; rfl⟩
  ·by_cases hj : j = k
   ·rw [if_pos hj] at e; cases e
   ·rw [if_neg hj] at e
    obtain ⟨p1, p2, p3⟩ := hs.priv j s' b e hb
    refine ⟨p1, p2, fun o => ?_⟩
    rw [hpriv b (fun hx => hj (hs.inj j k s' s b e hg hb hx)) o]
    exact p3 o
  ·by_cases hj : j = k
   ·rw [if_pos hj] at e1; cases e1
   ·by_cases hj' : j' = k
    ·rw [if_pos hj'] at e2; cases e2
    ·rw [if_neg hj] at e1
     rw [if_neg hj'] at e2
     exact hs.inj j j' s1 s2 b e1 e2 h1 h2
  ·by_cases hj : j = k
   ·rw [if_pos hj] at e; cases e
   ·rw [if_neg hj] at e
    exact hs.loc j s' b e hb hlt
 ·show Rep V' _ (getA .dead (fzR k ob st.regs) i) _
  rw [fzR_reg]
  exact fz_rep F (hr.regs i)
 ·have hj : j ≠ k := fun e' => by rw [e', hctx] at e; cases e
  rw [if_neg hj]
  exact hr.ini j s' e
end
/- Calls that hand objects on. -/
def getObs (st : St) : List Nat → Option (List Ob)
 | [] => some []
 | k :: r => match st.ob k with
  | some o => (getObs st r).map (o :: ·)
  | none => none
def putAll (st : St) : List Nat → List Ob → St
 | k :: ks, o :: os => putAll (st.put k o) ks os
 | _, _ => st
def allNone (st : St) : List Nat → Bool
 | [] => true
 | k :: r => (match st.ob k with | none => true | some _ => false) && allNone st r
/-- A call that hands objects on: those of pass, in that order; what comes back beside them gets the names of new. -/
def acall (P : Program) (d : Option Nat) (c : Cal) (args : List Arg) (pass new : List Nat) (st : St) (K : St → Prop) : Prop :=
 ∃ f caps obs R, callee st.ev c = some (f, caps) ∧ calOk P st.ev c ∧ getObs st pass = some obs ∧ allNone st new = true ∧
  Ctr P f (renL (idxM 0 pass) (calV st.ev c args ++ caps)) (mapOb (idxM 0 pass) obs) R ∧
  ∀ res obs', R res obs' → obs'.length = pass.length + new.length ∧ K ((putAll st (pass ++ new) (mapOb (invL (idxM 0 (pass ++ new))) obs')).setO d (ren (invL (idxM 0 (pass ++ new))) (resA res)))
section
variable {W0 : World} {V0 : View} {Own : Fra} {P : Program} {N : Nat} {o : Oper} {w w' : World} {V V' : View} {G G' : Ctx} {st : St} {a : Act} {μ : Nat → Option Ob} {Q : Exit → Act → World → Prop}
theorem getObs_get : ∀ {ks : List Nat} {obs : List Ob} {i : Nat}, getObs st ks = some obs → obs[i]? = (ks[i]?).bind st.ob
 | [], obs, i, h => by simp [getObs] at h; subst h; simp
 | k :: r, obs, i, h => by
  simp only [getObs] at h
  split at h
  ·rename_i o ho
   obtain ⟨l, hl, rfl⟩ := Option.map_eq_some_iff.1 h
   cases i with
   | zero => simp [ho]
   | succ i => simpa using getObs_get (i := i) hl
  ·cases h
theorem putAll_reg : ∀ {ks : List Nat} {os : List Ob} {st : St} {i : Nat}, (putAll st ks os).reg i = st.reg i
 | [], os, st, i => by simp [putAll]
 | k :: ks, [], st, i => by simp [putAll]
 | k :: ks, o :: os, st, i => by rw [putAll, putAll_reg]; rfl
theorem getObs_eq : ∀ {ks : List Nat}, getObs st ks = getObsM st.ob ks
 | [] => rfl
 | k :: r => by simp only [getObs, getObsM, getObs_eq (ks := r)]; rfl
theorem allNone_eq : ∀ {ks : List Nat}, allNone st ks = allNoneM st.ob ks
 | [] => rfl
 | k :: r => by simp only [allNone, allNoneM, allNone_eq (ks := r)]; rfl
theorem putAll_upd : ∀ {ks : List Nat} {os : List Ob} {st : St}, (putAll st ks os).ob = updO st.ob (zipU ks os)
 | [], os, st => by simp [putAll, zipU, updO]
 | k :: ks, [], st => by simp [putAll, zipU, updO]
 | k :: ks, o :: os, st => by
  rw [putAll, putAll_upd, zipU, updO]
  congr 1
  funext j
  exact St.ob_put st k j o
theorem call_sound {d : Option Nat} {c : Cal} {args : List Arg} {pass new : List Nat} {K : St → Prop} (hd : o.dst = d) (hN : ∀ j, d = some j → j < N)
  (hok : okCall P c args o.op = true) (hk : keysOk (idxM 0 (pass ++ new)) = true) (hp : keysOk (idxM 0 pass) = true) (h : acall P d c args pass new st K) (hr : Rel W0 V0 Own N st a w V G) (next : Act → World → Prop)
  (hn : ∀ st' a' w' V' G', K st' → Rel W0 V0 Own N st' a' w' V' G' → next a' w') : o.wp P a w next Q := by
 obtain ⟨f, caps, obs, R, hcal, hco, hobs, hfresh, hctr, hR⟩ := h
 obtain ⟨vs, hrun, hrep⟩ := run_call (w := w) (args := args) hok hctr.1 hcal hco (hr.args _)
 rw [getObs_eq] at hobs
 rw [allNone_eq] at hfresh
 unfold Oper.wp
 rw [hrun, Oper.upon_enter]
 refine (call_core hr.sat hk hp hobs hfresh hctr (fun r o h => (hR r o h).1) hrep).mono ?_
 rintro e w' ⟨V', G', val, res, obs', hres, rfl, hV, hG, hv, hs'⟩
 refine hn _ _ w' V' G' (hR res obs' hres).2 ⟨?_, fun i => ?_, ?_, ?_, Ctx.le_trans hr.ini hG⟩
 ·rw [St.setO_ob, putAll_upd]
  exact hs'
 ·rw [St.setO_reg, putAll_reg, hd, put_getD (fun j hj => by rw [hr.size]; exact hN j hj)]
  split
  ·exact hv
  ·exact (hr.regs i).mono hV hG
 ·rw [hd]
  cases d with
  | none => exact hr.size
  | some j => simp [Act.put, hr.size]
 ·rw [hd]
  cases d with
  | none => exact hr.defers
  | some j => exact hr.defers
end
/- What is shown of operations outside a round holds within one too. -/
/-- Where nothing is fenced, within a round, or not. -/
def FR (r : Option Nat) : Fence := { Fence.wide with round := r }
def noDef (ops : Array Oper) : Bool := ops.toList.all fun o => match o.op with | .defer _ => false | _ => true
theorem noDef_at {ops : Array Oper} (h : noDef ops = true) {i : Nat} {o : Oper} (ho : ops[i]? = some o) : ∀ c, o.op ≠ .defer c := by
 intro c e
 have h1 : o ∈ ops.toList := by
  obtain ⟨hi, rfl⟩ := Array.getElem?_eq_some_iff.1 ho
  exact Array.getElem_mem_toList hi
 have := List.all_eq_true.1 h o h1
 rw [e] at this
 cases this
section
variable {P : Program} {r : Option Nat} {n : Nat} {ops : Array Oper} {Q : Exit → Act → World → Prop}
theorem callsIn_FR {f : FuncId} {args : Array Value} {w : World} {R : Ending → World → Prop} : CallsIn (FR r) n P f args w R ↔ Calls P f args w R :=
 Iff.trans Iff.rfl (callsIn_wide (n := n))
theorem oper_FR {o : Oper} {a : Act} {w : World} {K : Act → World → Prop} (hd : ∀ c, o.op ≠ .defer c) (h : o.wp P a w K Q) : o.wpIn (FR r) n P a w K Q := by
 refine ⟨fun f _ => trivial, ?_⟩
 rw [Oper.semAt_eq _ _ _ hd]
 unfold Oper.wp at h
 generalize (execOp a.eval o).run P w = x at h
 cases x with
 | ok x w' =>
  cases x with
  | value v => exact h
  | skip => exact h
  | defer d => exact h
  | enter f args =>
   refine ⟨fun h => (by cases h), callsIn_FR.2 (Calls.mono h fun e w'' he => ?_)⟩
   cases e <;> exact he
  | row s args =>
   refine ⟨fun h => (by cases h), fun c cs _ => ?_⟩
   obtain ⟨v, w'', h1, h2⟩ := h c cs
   exact ⟨v, w'', h1, stepsIn_wide.2 h2⟩
  | _ => exact h.elim
 | halt x w' => cases x <;> exact h
theorem wpOp_FR {i : Nat} {a : Act} {w : World} {K : Act → World → Prop} (hQ : ¬ LetsOut Q) (hd : noDef ops = true) (h : wpOp P ops Q i K a w) : wpOpIn (FR r) n P ops Q i K a w := by
 unfold wpOp at h
 unfold wpOpIn
 cases ho : ops[i]? with
 | none => rw [ho] at h; exact h
 | some o =>
  rw [ho] at h
  simp only at h ⊢
  split
  ·rename_i hw
   rw [if_pos hw] at h
   rcases h with h | h
   ·exact oper_FR (noDef_at hd ho) h
   ·exact absurd h.2 hQ
  ·rename_i hw
   rw [if_neg hw] at h
   exact ⟨fun f _ => trivial, h⟩
theorem wpOps_FR (hQ : ¬ LetsOut Q) (hd : noDef ops = true) : ∀ {l : List Nat} {a : Act} {w : World}, wpOps P ops Q l a w → wpOpsIn (FR r) n P ops Q l a w
 | [], a, w, h => h
 | i :: l, a, w, h => by
  rw [wpOps_cons] at h
  rw [wpOpsIn_cons]
  exact wpOp_FR hQ hd (wpOp_mono (fun a w h => wpOps_FR hQ hd h) h)
theorem wpAny_FR (hQ : ¬ LetsOut Q) (hd : noDef ops = true) {md : Region.Mode} : ∀ {fuel : Nat} {t : Array Bool} {a : Act} {w : World}, wpAny P md ops Q fuel t a w → wpAnyIn (FR r) n P md ops Q fuel t a w
 | 0, t, a, w, h => h
 | fuel + 1, t, a, w, h => ⟨h.1, fun i hi => wpOp_FR hQ hd (wpOp_mono (fun a w h => wpAny_FR hQ hd h) (h.2 i hi))⟩
end
/- A range over a function, with what stands between two rounds numbered. -/
/-- All cells are as they were, and all that was there below B. -/
structure Quiet (B : Nat) (w w' : World) : Prop where
 os : w'.os = w.os
 tape : w'.tape = w.tape
 output : w'.output = w.output
 size : w.heap.size ≤ w'.heap.size
 same : ∀ (b : Nat) (o : Obj), w.heap[b]? = some o → b < B ∨ o.isCells = true → w'.heap[b]? = some o
theorem Quiet.refl (B : Nat) (w : World) : Quiet B w w := ⟨rfl, rfl, rfl, Nat.le_refl _, fun _ _ h _ => h⟩
theorem Quiet.trans {B : Nat} {a b c : World} (h : Quiet B a b) (k : Quiet B b c) : Quiet B a c :=
 ⟨k.os.trans h.os, k.tape.trans h.tape, k.output.trans h.output, Nat.le_trans h.size k.size, fun i o e hi => k.same i o (h.same i o e hi) hi⟩
theorem Quiet.alloc (B : Nat) (w : World) (o : Obj) : Quiet B w (w.alloc o) :=
 ⟨rfl, rfl, rfl, by simp, fun b x e _ => by
  have hb : b < w.heap.size := (Array.getElem?_eq_some_iff.1 e).1
  exact (heap_alloc_old hb).trans e⟩
theorem Quiet.put {B b : Nat} {w : World} {o : Obj} (o' : Obj) (hB : B ≤ b) (h : w.heap[b]? = some o) (hc : o.isCells = false) : Quiet B w (w.putObj b o') :=
 ⟨rfl, rfl, rfl, by simp, fun i x e hi => by
  by_cases hib : i = b
  ·subst hib
   rw [h] at e
   cases e
   rcases hi with hi | hi
   ·omega
   ·rw [hc] at hi; cases hi
  ·exact (World.putObj_heap_other hib).trans e⟩
/-- All that was there is as it was. -/
def Idle (w w' : World) : Prop := Quiet w.heap.size w w'
theorem Idle.quiet {w w' : World} (h : Idle w w') (B : Nat) : Quiet B w w' := ⟨h.os, h.tape, h.output, h.size, fun b o e _ => h.same b o e (.inl (Array.getElem?_eq_some_iff.1 e).1)⟩
theorem cells_of {w : World} {b o : Nat} {v : Value} (h : w.cell? ⟨b, o, none⟩ = some v) : ∃ x : Obj, w.heap[b]? = some x ∧ x.isCells = true := by
 unfold World.cell? at h
 cases hx : w.heap[b]? with
 | none => simp [hx] at h
 | some x => exact ⟨x, rfl, by cases x <;> simp_all [Obj.isCells]⟩
section
variable {W0 : World} {V0 : View} {Own : Fra} {w w' : World} {V V' : View} {G G' : Ctx} {μ μ' : Nat → Option Ob}
theorem Quiet.cell {B b o : Nat} {v : Value} (h : Quiet B w w') (e : w.cell? ⟨b, o, none⟩ = some v) : w'.cell? ⟨b, o, none⟩ = some v := by
 obtain ⟨x, hx, hc⟩ := cells_of e
 have := h.same b x hx (.inr hc)
 unfold World.cell? at e ⊢
 rw [this]
 rw [hx] at e
 exact e
theorem ObOk.cells {s : Sh} {ob : Ob} (h : ObOk V G w s ob) {b : Nat} (hb : s.block = some b) : ∃ x : Obj, w.heap[b]? = some x ∧ x.isCells = true := by
 cases s <;> cases ob <;> simp only [ObOk] at h
 ·simp only [Sh.block, Option.some.injEq] at hb
  obtain ⟨us, T, h1, _⟩ := h
  exact ⟨_, by rw [← hb]; exact h1, rfl⟩
 ·simp only [Sh.block, Option.some.injEq] at hb
  obtain ⟨us, T, h1, _⟩ := h
  exact ⟨_, by rw [← hb]; exact h1, rfl⟩
 ·rename_i ver esz n loc _ _ _
  obtain ⟨_, _, _, _, h1⟩ := h
  cases hl : loc with
  | none => simp [Sh.block, hl] at hb
  | some p =>
   obtain ⟨b', o, t⟩ := p
   obtain ⟨us, T, h2, _⟩ := h1 b' o t hl
   simp [Sh.block, hl] at hb
   exact ⟨_, by rw [← hb]; exact h2, rfl⟩
 ·rename_i ver esz n loc _ _
  obtain ⟨_, _, _, _, h1⟩ := h
  cases hl : loc with
  | none => simp [Sh.block, hl] at hb
  | some p =>
   obtain ⟨b', o, t⟩ := p
   obtain ⟨us, T, h2, _⟩ := h1 b' o t hl
   simp [Sh.block, hl] at hb
   exact ⟨_, by rw [← hb]; exact h2, rfl⟩
theorem Sat.quiet (hs : Sat W0 V0 Own V G w μ) {B : Nat} (hB : W0.heap.size ≤ B) (h : Quiet B w w') : Sat W0 V0 Own V G w' μ where
 keep := ⟨h.os.trans hs.keep.os, h.tape.trans hs.keep.tape, h.output.trans hs.keep.output, Nat.le_trans hs.keep.size h.size, fun b hb ho => by
  rw [← hs.keep.block b hb ho]
  have hlt : b < w.heap.size := Nat.lt_of_lt_of_le hb hs.keep.size
  rw [Array.getElem?_eq_getElem hlt]
  exact h.same b _ (Array.getElem?_eq_getElem hlt) (.inl (by omega))⟩
 view := fun b o v e => h.cell (hs.view b o v e)
 vle := hs.vle
 vnew := hs.vnew
 obs := fun k ob e => by
  obtain ⟨s, h1, h2⟩ := hs.obs k ob e
  refine ⟨s, h1, h2.mono (View.le_refl _) (Ctx.le_refl _) fun b hb => ?_⟩
  obtain ⟨x, hx, hc⟩ := h2.cells hb
  rw [hx]
  exact h.same b x hx (.inr hc)
 dom := hs.dom
 priv := fun k s b e hb => by
  obtain ⟨p, q, r⟩ := hs.priv k s b e hb
  exact ⟨Nat.lt_of_lt_of_le p h.size, q, r⟩
 inj := hs.inj
 loc := hs.loc
 glob := hs.glob
/-- What was done with all objects from w on, seen from the beginning. -/
theorem Sat.trans (hs : Sat W0 V0 Own V G w μ) (h : Sat w V G.owns V' G' w' μ') : Sat W0 V0 Own V' G' w' μ' where
 keep := hs.keep.of_le h.keep.os h.keep.tape h.keep.output h.keep.size fun b h1 h2 => by
  refine h.keep.block b (Nat.lt_of_lt_of_le h1 hs.keep.size) fun ho => ?_
  obtain ⟨k, s, e, hb⟩ := ho
  rcases (hs.priv k s b e hb).2.1 with g | g
  ·exact h2 g
  ·omega
 view := h.view
 vle := View.le_trans hs.vle h.vle
 vnew := fun b o hb => by
  rw [h.vnew b o (Nat.lt_of_lt_of_le hb hs.keep.size)]
  exact hs.vnew b o hb
 obs := h.obs
 dom := h.dom
 priv := fun k s b e hb => by
  obtain ⟨p, q, r⟩ := h.priv k s b e hb
  refine ⟨p, ?_, r⟩
  rcases q with q | q
  ·obtain ⟨k', s', e', hb'⟩ := q
   exact (hs.priv k' s' b e' hb').2.1
  ·exact .inr (Nat.le_trans hs.keep.size q)
 inj := h.inj
 glob := hs.glob
 loc := fun k s b e hb hlt => by
  obtain ⟨s', e', hb'⟩ := h.loc k s b e hb (Nat.lt_of_lt_of_le hlt hs.keep.size)
  exact hs.loc k s' b e' hb' hlt
/-- What holds no cells, and was there at w, is as it was. -/
theorem Sat.keepsFrom (hs : Sat W0 V0 Own V G w μ) (h : Sat w V G.owns V' G' w' μ') (B : Nat) : KeepsFrom B w w' :=
 ⟨h.keep.size, fun k o _ e hc => by
  have hlt : k < w.heap.size := (Array.getElem?_eq_some_iff.1 e).1
  rw [h.keep.block k hlt fun ho => ?_, e]
  obtain ⟨j, s, ej, hb⟩ := ho
  obtain ⟨ob, eo⟩ := hs.dom j s ej
  obtain ⟨s2, e2, hok⟩ := hs.obs j ob eo
  rw [ej] at e2
  cases e2
  obtain ⟨x, hx, hx2⟩ := hok.cells hb
  rw [e] at hx
  cases hx
  rw [hc] at hx2
  cases hx2⟩
end
/-- How a round's body may be left. -/
def roundEnd (B : Nat) (W : World) (n : World → Prop) (Ix : Code → World → Prop) : Exit → Act → World → Prop
 | .normal, _, W' => KeepsFrom B W W' ∧ n W'
 | .ret, _, W' => KeepsFrom B W W' ∧ Ix .ret W'
 | .exit id, _, W' => KeepsFrom B W W' ∧ Ix (.exit id) W'
 | _, _, _ => False
/-- A function's word that, called with a yield, it hands on the values of xs, in that order, as long as they are wanted; of the view V all it may read is there as long as the rounds leave it. -/
def SeqOk (P : Program) (f : Nat) (lb : List Value) (V : View) (xs : List (Array Value)) : Prop :=
 ∀ (W : World) (l : Nat) (J : Nat → World → Prop) (Jx : World → Prop), (∀ k W W', J k W → Idle W W' → J k W') → (∀ W W', Jx W → Idle W W' → Jx W') →
  (∀ k W, J k W → ∀ b o v, V b o = some v → W.cell? ⟨b, o, none⟩ = some v) →
  (∀ k x W, xs[k]? = some x → J k W → YieldAt Fence.wide 0 P l x W fun e W' => (e = .returned (.bool true) ∧ J (k + 1) W') ∨ (e = .returned (.bool false) ∧ Jx W')) →
  J 0 W → CallsIn Fence.wide 0 P f (#[.func (.yield l) #[] #[]] ++ lb.toArray) W fun e W' => (∃ v, e = .returned v) ∧ (J xs.length W' ∨ Jx W')
/-- The same of a function that is bound to its first arguments. -/
def SeqOk2 (P : Program) (f : Nat) (pb lb : List Value) (V : View) (xs : List (Array Value)) : Prop :=
 ∀ (W : World) (l : Nat) (J : Nat → World → Prop) (Jx : World → Prop), (∀ k W W', J k W → Idle W W' → J k W') → (∀ W W', Jx W → Idle W W' → Jx W') →
  (∀ k W, J k W → ∀ b o v, V b o = some v → W.cell? ⟨b, o, none⟩ = some v) →
  (∀ k x W, xs[k]? = some x → J k W → YieldAt Fence.wide 0 P l x W fun e W' => (e = .returned (.bool true) ∧ J (k + 1) W') ∨ (e = .returned (.bool false) ∧ Jx W')) →
  J 0 W → CallsIn Fence.wide 0 P f (pb.toArray ++ #[.func (.yield l) #[] #[]] ++ lb.toArray) W fun e W' => (∃ v, e = .returned v) ∧ (J xs.length W' ∨ Jx W')
theorem SeqOk.two {P : Program} {f : Nat} {lb : List Value} {V : View} {xs : List (Array Value)} (h : SeqOk P f lb V xs) : SeqOk2 P f [] lb V xs := fun W l J Jx h1 h2 h3 h4 h5 => by
 have := h W l J Jx h1 h2 h3 h4 h5
 simpa only [List.nil_append, Array.empty_append] using this
section
variable {P : Program}
theorem rfunc_wpIn {g : Operand} {ps : Array Tmp} {assign body : Code} {Q : Exit → Act → World → Prop} {a : Act} {w : World} {gf : Nat} {pb lb : List Value} {V : View} {xs : List (Array Value)}
  (hg : a.eval g = .func (.func gf) pb.toArray lb.toArray) (eg : okFn P gf = true) (hseq : SeqOk2 P gf pb lb V xs) (hps : ∀ x ∈ xs, x.size = ps.size)
  (I : Nat → World → Prop) (Ix : Code → World → Prop) (hI : ∀ k W W', I k W → Quiet w.heap.size W W' → I k W') (hIx : ∀ c W W', Ix c W → Quiet w.heap.size W W' → Ix c W')
  (hV : ∀ k W, I k W → ∀ b o v, V b o = some v → W.cell? ⟨b, o, none⟩ = some v) (h0 : I 0 w)
  (hround : ∀ (l k : Nat) (x : Array Value) (W : World), xs[k]? = some x → I k W → w.heap.size ≤ W.heap.size →
   assign.wpIn (FR (some l)) 0 P (Exit.then (fun a₁ W₁ => KeepsFrom w.heap.size W W₁ ∧ ∀ W₂, Quiet w.heap.size W₁ W₂ → body.wpIn (FR (some l)) 0 P (roundEnd w.heap.size W₂ (I (k + 1)) Ix) a₁ W₂) (fun _ _ _ => False))
    { tmps := (ps.zip x).foldl (fun t (p, v) => t.setIfInBounds p v) a.tmps, defers := [] } W)
  (hdone : ∀ (D : Nat) (W : World), w.heap.size ≤ D → I xs.length W → W.heap[D]? = some (.deferred (some [])) → Q .normal { a with defers := { target := .collected D, args := #[] } :: a.defers } W)
  (hstop : ∀ (D : Nat) (c : Code) (W : World), w.heap.size ≤ D → Ix c W → W.heap[D]? = some (.deferred (some [])) → c.wpIn (FR none) 0 P Q { a with defers := { target := .collected D, args := #[] } :: a.defers } W) :
  (Code.rangeFunc g ps assign body).wpIn (FR none) 0 P Q a w := by
 refine wpIn_rangeFunc ?_
 intro fn hfn
 obtain ⟨rec, hrec⟩ : ∃ rec : LoopState → Option Code → Loop, rec = fun st pe => { state := st, pending := pe, fn, tmps := a.tmps, params := ps, assign, body, defers := w.heap.size } := ⟨_, rfl⟩
 obtain ⟨W1, hW1⟩ : ∃ W1, (w.alloc (.deferred (some []))).alloc (.loop (rec .ready none)) = W1 := ⟨_, rfl⟩
 have hL1 : W1.heap[w.heap.size + 1]? = some (.loop (rec .ready none)) := by
  rw [← hW1]; have := World.alloc_heap_new (w.alloc (.deferred (some []))) (.loop (rec .ready none)); rwa [World.size_alloc] at this
 have hK1 : W1.heap[w.heap.size]? = some (.deferred (some [])) := by
  rw [← hW1]; exact (heap_alloc_old (by simp)).trans (World.alloc_heap_new w _)
 have hI1 : I 0 W1 := by
  rw [← hW1]
  exact hI _ _ _ h0 ((Quiet.alloc _ _ _).trans (Quiet.alloc _ _ _))
 refine ⟨w.heap.size + 1, [{ target := .collected w.heap.size, args := #[] }], W1, { target := .fn (.func gf) lb.toArray, args := pb.toArray ++ #[.func (.yield (w.heap.size + 1)) #[] #[]] }, W1, gf,
  pb.toArray ++ #[.func (.yield (w.heap.size + 1)) #[] #[]] ++ lb.toArray, W1, ?_, ?_, ?_, ?_, fun h => (by cases h), ?_⟩
 ·rw [← hW1, hrec]; exact run_enterLoop_outer _ _ _ _ _
 ·simp only [resolve, hg]
  simp [go_sem]
 ·intro f' hf'; trivial
 ·simp [invoke, go_sem, run_enter eg]
 ·have hidle : ∀ {A B : World} {b : Nat} {o : Obj}, A.heap[b]? = some o → Idle A B → B.heap[b]? = some o := fun e h => h.same _ _ e (.inl (Array.getElem?_eq_some_iff.1 e).1)
  have key := hseq W1 (w.heap.size + 1)
   (fun k W => I k W ∧ W.heap[w.heap.size + 1]? = some (.loop (rec .ready none)) ∧ W.heap[w.heap.size]? = some (.deferred (some [])))
   (fun W => ∃ c, Ix c W ∧ W.heap[w.heap.size + 1]? = some (.loop (rec .done (some c))) ∧ W.heap[w.heap.size]? = some (.deferred (some [])))
   (fun k W W' h hi => ⟨hI k W W' h.1 (hi.quiet _), hidle h.2.1 hi, hidle h.2.2 hi⟩)
   (fun W W' h hi => by
    obtain ⟨c, h1, h2, h3⟩ := h
    exact ⟨c, hIx c W W' h1 (hi.quiet _), hidle h2 hi, hidle h3 hi⟩)
   (fun k W h => hV k W h.1) ?_ ⟨hI1, hL1, hK1⟩
  ·refine CallsIn.mono key ?_
   rintro e W2 ⟨⟨v, rfl⟩, ⟨hi, hl, hk⟩ | ⟨c, hi, hl, hk⟩⟩
   ·refine ⟨none, _, by have := run_endLoop (P := P) hl (by rw [hrec]; simp); rw [hrec] at this; exact this, hdone _ _ (Nat.le_refl _) (hI _ _ _ hi (Quiet.put _ (by omega) hl rfl)) ((World.putObj_heap_other (by omega)).trans hk)⟩
   ·refine ⟨some c, _, by have := run_endLoop (P := P) hl (by rw [hrec]; simp); rw [hrec] at this; exact this, hstop _ c _ (Nat.le_refl _) (hIx _ _ _ hi (Quiet.put _ (by omega) hl rfl)) ((World.putObj_heap_other (by omega)).trans hk)⟩
  ·rintro k x W hx ⟨hi, hl, hk⟩
   have hy := run_yield (P := P) (args := x) hl (by rw [hrec]; exact hps x (List.mem_of_getElem? hx))
   rw [hrec] at hy
   refine ⟨fn, _, assign, body, hy, roundIn_of_wpIn trivial (wpIn_mono (hround _ k x W hx hi (by have := (Array.getElem?_eq_some_iff.1 hl).1; omega)) ?_)⟩
   rintro e1 a1 Wa hp
   cases e1 with
   | normal =>
    obtain ⟨hkf, hb⟩ := hp
    have hl := hkf.same _ _ (by omega) hl rfl
    have hk := hkf.same _ _ (Nat.le_refl _) hk rfl
    have hlt : w.heap.size + 1 < Wa.heap.size := (Array.getElem?_eq_some_iff.1 hl).1
    refine ⟨_, run_beginRound hl (by rw [hrec]), ?_⟩
    have hl2 : (Wa.putObj (w.heap.size + 1) (.loop { rec .ready none with state := .busy })).heap[w.heap.size + 1]? = some (.loop { rec .ready none with state := .busy }) := World.putObj_heap_same hlt
    have hk2 : (Wa.putObj (w.heap.size + 1) (.loop { rec .ready none with state := .busy })).heap[w.heap.size]? = some (.deferred (some [])) := (World.putObj_heap_other (by omega)).trans hk
    refine wpIn_mono (hb _ (Quiet.put _ (by omega) hl rfl)) ?_
    have fin : ∀ (jump : Option Code) (W3 : World), KeepsFrom w.heap.size (Wa.putObj (w.heap.size + 1) (.loop { rec .ready none with state := .busy })) W3 →
      (Instr.endRound (w.heap.size + 1) jump).run P W3 = .ok (.bool jump.isNone) (W3.putObj (w.heap.size + 1) (.loop (rec (if jump.isNone then .ready else .done) jump))) ∧
      W3.heap[w.heap.size + 1]? = some (.loop { rec .ready none with state := .busy }) ∧
      (W3.putObj (w.heap.size + 1) (.loop (rec (if jump.isNone then .ready else .done) jump))).heap[w.heap.size + 1]? = some (.loop (rec (if jump.isNone then .ready else .done) jump)) ∧
      (W3.putObj (w.heap.size + 1) (.loop (rec (if jump.isNone then .ready else .done) jump))).heap[w.heap.size]? = some (.deferred (some [])) := fun jump W3 hk3 => by
     have hl3 := hk3.same _ _ (by omega) hl2 rfl
     have := run_endRound (P := P) jump hl3
     rw [hrec] at this ⊢
     exact ⟨this, by rw [hrec] at hl3; exact hl3, World.putObj_heap_same (Array.getElem?_eq_some_iff.1 hl3).1, (World.putObj_heap_other (by omega)).trans (hk3.same _ _ (Nat.le_refl _) hk2 rfl)⟩
    rintro e a3 W3 hp
    cases e with
    | normal =>
     obtain ⟨hk3, hi3⟩ := hp
     obtain ⟨hr, hl3, hl4, hk4⟩ := fin none W3 hk3
     exact ⟨_, _, hr, .inl ⟨rfl, hI _ _ _ hi3 (Quiet.put _ (by omega) hl3 rfl), hl4, hk4⟩⟩
    | ret =>
     obtain ⟨hk3, hi3⟩ := hp
     obtain ⟨hr, hl3, hl4, hk4⟩ := fin (some .ret) W3 hk3
     exact ⟨_, _, hr, .inr ⟨rfl, .ret, hIx _ _ _ hi3 (Quiet.put _ (by omega) hl3 rfl), hl4, hk4⟩⟩
    | exit id =>
     obtain ⟨hk3, hi3⟩ := hp
     obtain ⟨hr, hl3, hl4, hk4⟩ := fin (some (.exit id)) W3 hk3
     exact ⟨_, _, hr, .inr ⟨rfl, .exit id, hIx _ _ _ hi3 (Quiet.put _ (by omega) hl3 rfl), hl4, hk4⟩⟩
    | goto t => exact hp.elim
    | panic ch => exact hp.elim
    | outgrown => exact hp.elim
   | _ => exact hp.elim
end
end Go.AM
