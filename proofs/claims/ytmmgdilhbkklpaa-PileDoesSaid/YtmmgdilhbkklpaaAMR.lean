/- Regions that are carried out in the order of the text. -/
import Derived.Test.YtmmgdilhbkklpaaAMQ
namespace Go.AM
open Go
set_option linter.unusedVariables false
set_option linter.unusedSimpArgs false

/-- A state of the abstract machine stands for one of the program. -/
structure Rel (W0 : World) (V0 : View) (Own : Fra) (N : Nat) (st : St) (a : Act) (w : World) (V : View) (G : Ctx) : Prop where
  sat : Sat W0 V0 Own V G w st.ob
  regs : ∀ i, Rep V G (st.reg i) (a.tmps.getD i undef)
  size : a.tmps.size = N
  defers : a.defers = []
  ini : Own.ctx.le G
section
variable {W0 : World} {V0 : View} {Own : Fra} {P : Program} {N : Nat} {ops : Array Oper} {Q : Exit → Act → World → Prop} {st st' : St} {a : Act} {w w' : World} {V V' : View} {G G' : Ctx}
theorem Rel.same (h : Rel W0 V0 Own N st a w V G) (hs : Same st st') : Rel W0 V0 Own N st' a w V G :=
  ⟨by rw [← hs.obs]; exact h.sat, fun i => by rw [← hs.reg]; exact h.regs i, h.size, h.defers, h.ini⟩
theorem okA_rep {x : Arg} {y : Operand} (hr : ∀ i, Rep V G (st.reg i) (a.tmps.getD i undef)) (h : okA x y = true) : Rep V G (st.ev x) (a.eval y) := by
  cases x with
  | r i =>
    cases y <;> simp only [okA] at h <;> try (cases h; done)
    obtain rfl := Nat.eq_of_beq_eq_true h
    exact hr i
  | c v =>
    cases y with
    | const u =>
      have h' : okC v u = true := by simpa only [okA] using h
      exact (okC_rep V h').rep G
    | func g =>
      cases v <;> simp only [okA] at h <;> try (cases h; done)
      rename_i f caps
      cases caps with
      | nil =>
        simp only [okA] at h
        obtain rfl := Nat.eq_of_beq_eq_true h
        simp only [St.ev, Act.eval, Rep, RepL]
        exact ⟨[], rfl, rfl⟩
      | cons _ _ => simp [okA] at h
    | tmp _ => simp [okA] at h
    | global _ => simp [okA] at h
theorem Rel.args (h : Rel W0 V0 Own N st a w V G) (xs : List Arg) : ArgsOk V G st.ev a xs := fun x _ y hxy => okA_rep h.regs hxy
theorem St.puts_ob : ∀ (u : List (Nat × Ob)) (st : St), (st.puts u).ob = updO st.ob u
  | [], st => rfl
  | (k, o) :: u, st => by
    rw [St.puts, St.puts_ob u, updO]
    congr 1
    funext j
    exact St.ob_put st k j o
theorem St.puts_reg : ∀ (u : List (Nat × Ob)) (st : St) (i : Nat), (st.puts u).reg i = st.reg i
  | [], st, i => rfl
  | (k, o) :: u, st, i => by rw [St.puts, St.puts_reg u]; rfl
theorem St.setO_ob (st : St) (d : Option Nat) (v : AV) : (st.setO d v).ob = st.ob := by cases d <;> rfl
theorem St.setO_reg (st : St) (d : Option Nat) (v : AV) (i : Nat) : (st.setO d v).reg i = if d = some i then v else st.reg i := by
  cases d with
  | none => simp [St.setO]
  | some j =>
    simp only [St.setO, St.reg_set, Option.some.injEq]
    by_cases h : i = j
    · rw [if_pos h, if_pos h.symm]
    · rw [if_neg h, if_neg (fun e => h e.symm)]
theorem put_getD {a : Act} {d : Option Nat} {val : Value} {i : Nat} (hd : ∀ j, d = some j → j < a.tmps.size) : (a.put d val).tmps.getD i undef = if d = some i then val else a.tmps.getD i undef := by
  cases d with
  | none => simp [Act.put]
  | some j =>
    have hj := hd j rfl
    simp only [Act.put, Option.some.injEq]
    by_cases h : j = i
    · subst h
      rw [if_pos rfl]
      simp [Array.getD, hj]
    · rw [if_neg h]
      simp only [Array.getD_eq_getD_getElem?]
      rw [Array.getElem?_setIfInBounds_ne h]
theorem Rel.step (h : Rel W0 V0 Own N st a w V G) {x : AOp} {r : Rec} {val : Value} (hd : ∀ j, x.dst = some j → j < N) (hv : Rep V' G' r.v val) (hV : V.le V') (hG : G.le G') (hs : Sat W0 V0 Own V' G' w' (updO st.ob r.u)) :
    Rel W0 V0 Own N (st.step x r) (a.put x.dst val) w' V' G' := by
  refine ⟨?_, fun i => ?_, ?_, ?_, Ctx.le_trans h.ini hG⟩
  · unfold St.step
    rw [St.setO_ob, St.puts_ob]
    exact hs
  · unfold St.step
    rw [St.setO_reg, St.puts_reg, put_getD (fun j hj => by rw [h.size]; exact hd j hj)]
    split
    · exact hv
    · exact (h.regs i).mono hV hG
  · cases hx : x.dst with
    | none => exact h.size
    | some d => simp [Act.put, h.size]
  · cases hx : x.dst with
    | none => exact h.defers
    | some d => exact h.defers
theorem okOp_dst {o : Oper} {x : AOp} (h : okOp P N o x = true) : o.dst = x.dst ∧ ∀ j, x.dst = some j → j < N := by
  simp only [okOp, Bool.and_eq_true, decide_eq_true_eq] at h
  refine ⟨h.1.1, fun j hj => ?_⟩
  have := h.1.2
  rw [hj] at this
  exact of_decide_eq_true this
def okG (P : Program) (N : Nat) (ops : Array Oper) (o : Oper) (g : GOp) : Bool :=
  okOp P N o g.2 && match g.1, o.guard with
    | none, none => true
    | some (j, want), some (ji, want') => (want == want') && (match ops[ji]? with | some oj => decide (oj.dst = some j) | none => false)
    | _, _ => false
def okGs (P : Program) (N : Nat) (ops : Array Oper) : List Oper → List GOp → Bool
  | [], [] => true
  | o :: os, g :: gs => okG P N ops o g && okGs P N ops os gs
  | _, _ => false
/-- One operation, whatever comes behind it. -/
theorem gop_sound {o : Oper} {g : GOp} {r : Rec} {i : Nat} (hi : ops[i]? = some o) (hok : okG P N ops o g = true) (ht : StepOk P st g r) (hr : Rel W0 V0 Own N st a w V G) (K : Act → World → Prop)
    (hK : ∀ a' w' V' G', Rel W0 V0 Own N (st.step g.2 r) a' w' V' G' → K a' w') : wpOp P ops Q i K a w := by
  simp only [okG, Bool.and_eq_true] at hok
  obtain ⟨hok, hgd⟩ := hok
  obtain ⟨hd, hN⟩ := okOp_dst hok
  unfold wpOp
  rw [hi]
  have run : r.exec = true ∧ opR P g.2 st.ev st.ob r.v r.u r.acc → o.wp P a w K Q := by
    intro h
    refine op_sound hok h.2 (hr.args _) hr.sat K Q fun val w' V' G' hv hV hG hs => ?_
    rw [hd]
    exact hK _ _ _ _ (hr.step hN hv hV hG hs)
  obtain ⟨gd, x⟩ := g
  cases gd with
  | none =>
    cases hog : o.guard with
    | none =>
      simp only [Region.wanted, hog, if_true]
      exact .inl (run ht)
    | some q => simp [hog] at hgd
  | some q =>
    obtain ⟨j, want⟩ := q
    cases hog : o.guard with
    | none => simp [hog] at hgd
    | some q' =>
      obtain ⟨ji, want'⟩ := q'
      simp only [hog, Bool.and_eq_true, beq_iff_eq] at hgd
      obtain ⟨rfl, hgd⟩ := hgd
      split at hgd
      · rename_i oj hoj
        have hdj := of_decide_eq_true hgd
        obtain ⟨b, hb, hx⟩ := ht
        have hreg := hr.regs j
        have hy : yielded ops a.tmps ji = some b ∨ (yielded ops a.tmps ji = none ∧ b = !want) := by
          rcases hb with hb | ⟨hb, hbw⟩
          · left
            rw [hb] at hreg
            have hreg := rep_bool hreg
            have hj : a.tmps[j]? = some (.bool b) := by
              rw [Array.getD_eq_getD_getElem?] at hreg
              cases hh : a.tmps[j]? with
              | none => rw [hh] at hreg; simp [undef] at hreg
              | some v => rw [hh] at hreg; simp at hreg; rw [hreg]
            simp [yielded, hoj, hdj, hj]
          · right
            rw [hb] at hreg
            have hreg : a.tmps.getD j undef = .tuple #[] := by
              simp only [Rep, RepL] at hreg
              obtain ⟨us, e, rfl⟩ := hreg
              exact e
            refine ⟨?_, hbw⟩
            rw [Array.getD_eq_getD_getElem?] at hreg
            cases hh : a.tmps[j]? with
            | none => simp [yielded, hoj, hdj, hh]
            | some v => rw [hh] at hreg; simp at hreg; simp [yielded, hoj, hdj, hh, hreg]
        have hw : ((yielded ops a.tmps ji) == some want) = (b == want) := by
          rcases hy with hy | ⟨hy, rfl⟩
          · rw [hy]; cases b <;> cases want <;> rfl
          · rw [hy]; cases want <;> rfl
        simp only [Region.wanted, hog, hw]
        rcases hx with ⟨rfl, h1, h2⟩ | ⟨h1, rfl⟩
        · simp only [beq_self_eq_true, if_true]
          exact .inl (run ⟨h1, h2⟩)
        · have hne : (b == want) = false := by simp [h1]
          simp only [hne, Bool.false_eq_true, if_false]
          rw [hd]
          exact hK _ _ V G (hr.step (r := Rec.skip) hN (by simp only [Rec.skip, Rep, RepL]; exact ⟨[], rfl, rfl⟩) (View.le_refl _) (Ctx.le_refl _) hr.sat)
      · cases hgd
theorem text_sound : ∀ {l : List GOp} {rs : List Rec} {st : St} {a : Act} {w : World} {V : View} {G : Ctx} {k : Nat} {rest : List Nat}, okGs P N ops ((ops.toList.drop k).take l.length) l = true → TraceOk P l rs st → Rel W0 V0 Own N st a w V G →
    (∀ a' w' V' G', Rel W0 V0 Own N (runT l rs st) a' w' V' G' → wpOps P ops Q rest a' w') → wpOps P ops Q (List.range' k l.length ++ rest) a w
  | [], rs, st, a, w, V, G, k, rest, hok, ht, hr, hQ => by
    cases rs with
    | nil => exact hQ a w V G hr
    | cons _ _ => exact ht.elim
  | g :: l, [], st, a, w, V, G, k, rest, hok, ht, hr, hQ => ht.elim
  | g :: l, r :: rs, st, a, w, V, G, k, rest, hok, ht, hr, hQ => by
    cases hd : ops.toList.drop k with
    | nil => rw [hd] at hok; simp [okGs] at hok
    | cons o os =>
      rw [hd] at hok
      simp only [List.length_cons, List.take_succ_cons, okGs, Bool.and_eq_true] at hok
      have hi : ops[k]? = some o := by
        have := congrArg (·[0]?) hd
        simpa using this
      have hdr : ops.toList.drop (k + 1) = os := by
        have := congrArg (List.drop 1) hd
        rwa [List.drop_drop] at this
      rw [List.length_cons, List.range'_succ, List.cons_append, wpOps_cons]
      refine gop_sound hi hok.1 ht.1 hr _ fun a' w' V' G' hr' => ?_
      exact text_sound (by rw [hdr]; exact hok.2) ht.2 hr' hQ
theorem okGs_len : ∀ {os : List Oper} {gs : List GOp}, okGs P N ops os gs = true → os.length = gs.length
  | [], [], _ => rfl
  | [], _ :: _, h => by simp [okGs] at h
  | _ :: _, [], h => by simp [okGs] at h
  | o :: os, g :: gs, h => by
    simp only [okGs, Bool.and_eq_true] at h
    simp [okGs_len h.2]
theorem region_text {id : Nat} {is : List Item} {K : List Acc → St → Prop} (hok : okGs P N ops ops.toList (flat is) = true) (hg : grpOk is = true) (h : aitems P is [] st K) (hr : Rel W0 V0 Own N st a w V G)
    (hQ : ∀ A st' a' w' V' G', K A st' → Rel W0 V0 Own N st' a' w' V' G' → Q .normal a' w') : (Code.region id ops false).wp P Q a w := by
  obtain ⟨rs, st', t1, t2, t3⟩ := aitems_trace h (Same.refl st) hg
  refine wp_region ?_
  have hl : ops.size = (flat is).length := by rw [← okGs_len hok, Array.length_toList]
  rw [List.range_eq_range', hl]
  have := text_sound (P := P) (ops := ops) (Q := Q) (k := 0) (rest := []) (by rw [List.drop_zero, List.take_of_length_le (by rw [Array.length_toList]; omega)]; exact hok) t1 hr fun a' w' V' G' hr' => (hQ _ _ _ _ _ _ t3 (hr'.same t2) : wpOps P ops Q [] a' w')
  rwa [List.append_nil] at this
end
end Go.AM
