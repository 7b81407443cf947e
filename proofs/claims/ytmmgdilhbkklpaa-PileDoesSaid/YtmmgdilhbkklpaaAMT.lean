/- Regions whose order is drawn: the proof over all orders. -/
import Derived.Test.YtmmgdilhbkklpaaAMS
namespace Go.AM
open Go
set_option linter.unusedVariables false
set_option linter.unusedSimpArgs false
/-- The registers that an operation looks at. -/
def Arg.reg? : Arg → List Nat
  | .r i => [i]
  | .c _ => []
def GOp.reads (g : GOp) : List Nat := g.2.args.flatMap Arg.reg? ++ (match g.1 with | some (j, _) => [j] | none => [])
def GOp.writes (g : GOp) : List Nat := g.2.dst.toList
def meets (a b : List Nat) : Bool := a.any fun x => b.any fun y => Nat.beq x y
/-- Of two operations that touch one register, one of which writes it, the first comes ahead of the second in every order. -/
def regClash (g h : GOp) : Bool := meets g.writes h.reads || meets g.writes h.writes || meets g.reads h.writes
def accClash (a b : Acc) : Bool := meets a.2 (b.1 ++ b.2) || meets a.1 b.2
def accsOk (prec : List (List Nat)) (A : List Acc) : Bool := pairsOk accClash prec 0 [] A
/-- Who comes ahead of whom in every order. -/
def precOk (ops : Array Oper) (prec : List (List Nat)) : Bool :=
  (List.range ops.size).all fun i =>
    match ops[i]? with
    | some o => (o.after.toList.all fun e => !Region.binds .any e || Nat.blt e.on i) &&
        (prec.getD i []).all fun j => o.after.toList.any fun e => Region.binds .any e && (Nat.beq e.on j || (Nat.blt e.on i && (prec.getD e.on []).any fun k => Nat.beq k j))
    | none => true
theorem meets_iff {a b : List Nat} : meets a b = true ↔ ∃ x, x ∈ a ∧ x ∈ b := by
  simp only [meets, List.any_eq_true]
  constructor
  · rintro ⟨x, hx, y, hy, he⟩
    exact ⟨x, hx, by rw [Nat.eq_of_beq_eq_true he]; exact hy⟩
  · rintro ⟨x, hx, hy⟩
    exact ⟨x, hx, x, hy, Nat.beq_refl x⟩
section
variable {W0 : World} {V0 : View} {Own : Fra} {P : Program} {N : Nat} {ops : Array Oper} {Q : Exit → Act → World → Prop} {l : List GOp} {rs : List Rec} {st : St}
/-- The state behind those operations that L names, in the text's order. -/
def foldN (l : List GOp) (rs : List Rec) (st : St) (L : Nat → Bool) : Nat → St
  | 0 => st
  | i + 1 => if L i then (match l[i]?, rs[i]? with | some g, some r => (foldN l rs st L i).step g.2 r | _, _ => foldN l rs st L i) else foldN l rs st L i
theorem step_reg (s : St) (x : AOp) (r : Rec) (i : Nat) : (s.step x r).reg i = if x.dst = some i then r.v else s.reg i := by
  unfold St.step
  rw [St.setO_reg, St.puts_reg]
theorem updO_other : ∀ {u : List (Nat × Ob)} {μ : Nat → Option Ob} {k : Nat}, (∀ p ∈ u, p.1 ≠ k) → updO μ u k = μ k
  | [], μ, k, _ => rfl
  | (j, o) :: u, μ, k, h => by
    rw [updO, updO_other fun p hp => h p (List.mem_cons_of_mem _ hp)]
    exact if_neg (fun e => h (j, o) List.mem_cons_self e.symm)
theorem updO_congr : ∀ {u : List (Nat × Ob)} {μ μ' : Nat → Option Ob} {k : Nat}, μ k = μ' k → updO μ u k = updO μ' u k
  | [], μ, μ', k, h => h
  | (j, o) :: u, μ, μ', k, h => by
    rw [updO, updO]
    refine updO_congr ?_
    by_cases e : k = j
    · rw [if_pos e, if_pos e]
    · rw [if_neg e, if_neg e]; exact h
theorem updO_mem : ∀ {u : List (Nat × Ob)} {μ μ' : Nat → Option Ob} {k : Nat}, (∃ p ∈ u, p.1 = k) → updO μ u k = updO μ' u k
  | [], μ, μ', k, h => by obtain ⟨p, hp, _⟩ := h; cases hp
  | (j, o) :: u, μ, μ', k, h => by
    rw [updO, updO]
    by_cases e : k = j
    · refine updO_congr ?_
      rw [if_pos e, if_pos e]
    · obtain ⟨p, hp, hk⟩ := h
      rcases List.mem_cons.1 hp with rfl | hp
      · exact absurd hk.symm e
      · exact updO_mem ⟨p, hp, hk⟩
theorem step_ob (s : St) (x : AOp) (r : Rec) : (s.step x r).ob = updO s.ob r.u := by
  unfold St.step
  rw [St.setO_ob, St.puts_ob]
/-- A register that is written by the same ones. -/
theorem foldN_reg {L L' : Nat → Bool} {r : Nat} : ∀ {n : Nat}, (∀ j g, j < n → l[j]? = some g → g.2.dst = some r → L j = L' j) → (foldN l rs st L n).reg r = (foldN l rs st L' n).reg r
  | 0, _ => rfl
  | n + 1, h => by
    have ih := foldN_reg (n := n) fun j g hj => h j g (by omega)
    simp only [foldN]
    cases hg : l[n]? with
    | none => simp only [ite_self]; exact ih
    | some g =>
      cases hr : rs[n]? with
      | none => simp only [ite_self]; exact ih
      | some rr =>
        by_cases hd : g.2.dst = some r
        · rw [h n g (by omega) hg hd]
          split
          · rw [step_reg, step_reg, if_pos hd, if_pos hd]
          · exact ih
        · have e : ∀ b : Bool, ∀ s : St, (if b = true then s.step g.2 rr else s).reg r = s.reg r := by
            intro b s
            cases b
            · rfl
            · simp only [if_true]; rw [step_reg, if_neg hd]
          rw [e, e]
          exact ih
theorem foldN_ob {L L' : Nat → Bool} {k : Nat} : ∀ {n : Nat}, (∀ j r, j < n → rs[j]? = some r → (∃ p ∈ r.u, p.1 = k) → L j = L' j) → (foldN l rs st L n).ob k = (foldN l rs st L' n).ob k
  | 0, _ => rfl
  | n + 1, h => by
    have ih := foldN_ob (n := n) fun j g hj => h j g (by omega)
    simp only [foldN]
    cases hg : l[n]? with
    | none => simp only [ite_self]; exact ih
    | some g =>
      cases hr : rs[n]? with
      | none => simp only [ite_self]; exact ih
      | some rr =>
        by_cases hd : ∃ p ∈ rr.u, p.1 = k
        · rw [h n rr (by omega) hr hd]
          split
          · rw [step_ob, step_ob]
            exact updO_mem hd
          · exact ih
        · have e : ∀ b : Bool, ∀ s : St, (if b = true then s.step g.2 rr else s).ob k = s.ob k := by
            intro b s
            cases b
            · rfl
            · simp only [if_true]
              rw [step_ob, updO_other fun p hp e => hd ⟨p, hp, e⟩]
          rw [e, e]
          exact ih
theorem foldN_below {L : Nat → Bool} {i : Nat} : ∀ {n : Nat}, i ≤ n → (∀ j, i ≤ j → L j = false) → foldN l rs st L n = foldN l rs st L i
  | 0, h, _ => by rw [show i = 0 by omega]
  | n + 1, h, hL => by
    rcases Nat.lt_or_ge n i with h1 | h1
    · rw [show i = n + 1 by omega]
    · simp only [foldN, hL n h1, Bool.false_eq_true, if_false]
      exact foldN_below h1 hL
theorem runT_succ : ∀ {l : List GOp} {rs : List Rec} {st : St} {i : Nat} {g : GOp} {r : Rec}, l[i]? = some g → rs[i]? = some r → runT (l.take (i + 1)) (rs.take (i + 1)) st = (runT (l.take i) (rs.take i) st).step g.2 r
  | [], rs, st, i, g, r, h, _ => by simp at h
  | _ :: l, [], st, i, g, r, _, h => by simp at h
  | g' :: l, r' :: rs, st, 0, g, r, h, h' => by
    simp at h h'
    subst h
    subst h'
    simp [runT]
  | g' :: l, r' :: rs, st, i + 1, g, r, h, h' => by
    simp only [List.take_succ_cons, runT]
    exact runT_succ (by simpa using h) (by simpa using h')
theorem trace_get : ∀ {l : List GOp} {rs : List Rec} {st : St} {i : Nat} {g : GOp}, TraceOk P l rs st → l[i]? = some g → ∃ r, rs[i]? = some r ∧ StepOk P (runT (l.take i) (rs.take i) st) g r
  | [], rs, st, i, g, _, h => by simp at h
  | _ :: l, [], st, i, g, ht, h => ht.elim
  | g' :: l, r' :: rs, st, 0, g, ht, h => by
    simp at h
    subst h
    exact ⟨r', rfl, by simpa [runT] using ht.1⟩
  | g' :: l, r' :: rs, st, i + 1, g, ht, h => by
    obtain ⟨r, h1, h2⟩ := trace_get ht.2 (by simpa using h)
    exact ⟨r, by simpa using h1, by simpa only [List.take_succ_cons, runT] using h2⟩
theorem foldN_all {L : Nat → Bool} (ht : TraceOk P l rs st) : ∀ {i : Nat}, i ≤ l.length → (∀ j, j < i → L j = true) → foldN l rs st L i = runT (l.take i) (rs.take i) st
  | 0, _, _ => by simp [foldN, runT]
  | i + 1, h, hL => by
    have hg : l[i]? = some l[i] := List.getElem?_eq_getElem (by omega)
    obtain ⟨r, hr, _⟩ := trace_get ht hg
    rw [runT_succ hg hr]
    simp only [foldN, hL i (by omega), if_true, hg, hr]
    rw [foldN_all ht (by omega) fun j hj => hL j (by omega)]
end
end Go.AM
