/- Regions whose order is drawn: every order. -/
import Derived.Test.YtmmgdilhbkklpaaAMT
namespace Go.AM
open Go
set_option linter.unusedVariables false
set_option linter.unusedSimpArgs false
section
variable {W0 : World} {V0 : View} {Own : Fra} {P : Program} {N : Nat} {ops : Array Oper} {Q : Exit → Act → World → Prop} {l : List GOp} {rs : List Rec} {st : St} {prec : List (List Nat)}
def isL (listed : Array Bool) (i : Nat) : Bool := listed.getD i false
def Closed (ops : Array Oper) (listed : Array Bool) : Prop := ∀ i o, isL listed i = true → ops[i]? = some o → ∀ e ∈ o.after.toList, Region.binds .any e = true → isL listed e.on = true
theorem precOk_spec (h : precOk ops prec = true) {i : Nat} {o : Oper} (ho : ops[i]? = some o) :
    (∀ e ∈ o.after.toList, Region.binds .any e = true → e.on < i) ∧ ∀ j ∈ prec.getD i [], ∃ e ∈ o.after.toList, Region.binds .any e = true ∧ (e.on = j ∨ (e.on < i ∧ j ∈ prec.getD e.on [])) := by
  unfold precOk at h
  rw [List.all_eq_true] at h
  have hi : i < ops.size := by
    rcases Nat.lt_or_ge i ops.size with h' | h'
    · exact h'
    · simp [Array.getElem?_eq_none h'] at ho
  have := h i (List.mem_range.2 hi)
  rw [ho] at this
  simp only [Bool.and_eq_true, List.all_eq_true, List.any_eq_true, Bool.or_eq_true, Bool.not_eq_true'] at this
  refine ⟨fun e he hb => ?_, fun j hj => ?_⟩
  · rcases this.1 e he with h1 | h1
    · rw [hb] at h1; cases h1
    · exact Nat.le_of_ble_eq_true h1
  · obtain ⟨e, he, hb, hx⟩ := this.2 j hj
    refine ⟨e, he, hb, ?_⟩
    rcases hx with hx | ⟨hx, k, hk, hk'⟩
    · exact .inl (Nat.eq_of_beq_eq_true hx)
    · exact .inr ⟨Nat.le_of_ble_eq_true hx, by rw [← Nat.eq_of_beq_eq_true hk']; exact hk⟩
theorem prec_listed (hp : precOk ops prec = true) {listed : Array Bool} (hc : Closed ops listed) : ∀ (i : Nat) {o : Oper} {j : Nat}, ops[i]? = some o → (∀ e ∈ o.after.toList, Region.binds .any e = true → isL listed e.on = true) → j ∈ prec.getD i [] → isL listed j = true := by
  intro i
  induction i using Nat.strongRecOn with
  | _ i ih =>
    intro o j ho he hj
    obtain ⟨e, h1, h2, h3⟩ := (precOk_spec hp ho).2 j hj
    rcases h3 with h3 | ⟨h3, h4⟩
    · rw [← h3]; exact he e h1 h2
    · have hon := he e h1 h2
      cases hoe : ops[e.on]? with
      | none =>
        have hi : i < ops.size := by
          rcases Nat.lt_or_ge i ops.size with h' | h'
          · exact h'
          · simp [Array.getElem?_eq_none h'] at ho
        rw [Array.getElem?_eq_getElem (by omega)] at hoe
        cases hoe
      | some oe => exact ih e.on h3 hoe (hc e.on oe hon hoe) h4
theorem step_keys {st : St} {g : GOp} {r : Rec} (h : StepOk P st g r) : ∀ p ∈ r.u, p.1 ∈ r.acc.2 := by
  unfold StepOk at h
  split at h
  · exact opR_keys h.2
  · obtain ⟨b, _, h⟩ := h
    rcases h with ⟨_, _, h⟩ | ⟨_, rfl⟩
    · exact opR_keys h
    · intro p hp; cases hp
theorem StepOk.frame {s t : St} {g : GOp} {r : Rec} (h : StepOk P t g r) (hr : ∀ i ∈ g.reads, t.reg i = s.reg i) (ho : ∀ k, k ∈ r.acc.1 ∨ k ∈ r.acc.2 → t.ob k = s.ob k) : StepOk P s g r := by
  have hargs : ∀ x ∈ g.2.args, t.ev x = s.ev x := by
    intro x hx
    cases x with
    | c v => rfl
    | r i => exact hr i (by simp only [GOp.reads, List.mem_append, List.mem_flatMap]; exact .inl ⟨_, hx, by simp [Arg.reg?]⟩)
  have key : opR P g.2 t.ev t.ob r.v r.u r.acc → opR P g.2 s.ev s.ob r.v r.u r.acc := fun h => opR_frame h hargs ho
  obtain ⟨gd, x⟩ := g
  cases gd with
  | none => exact ⟨h.1, key h.2⟩
  | some q =>
    obtain ⟨j, want⟩ := q
    obtain ⟨b, hb, hx⟩ := h
    refine ⟨b, by rw [← hr j (by simp [GOp.reads])]; exact hb, ?_⟩
    rcases hx with ⟨h1, h2, h3⟩ | hx
    · exact .inl ⟨h1, h2, key h3⟩
    · exact .inr hx
theorem accs_get {i : Nat} {r : Rec} (h : rs[i]? = some r) : (rs.map (·.acc))[i]? = some r.acc := by simp [h]
theorem isL_set {listed : Array Bool} {i j : Nat} (hi : i < listed.size) : isL (listed.setIfInBounds i true) j = if j = i then true else isL listed j := by
  unfold isL
  simp only [Array.getD_eq_getD_getElem?]
  by_cases h : j = i
  · subst h
    rw [if_pos rfl, Array.getElem?_setIfInBounds_self_of_lt hi]
    rfl
  · rw [if_neg h, Array.getElem?_setIfInBounds_ne (Ne.symm h)]
theorem drawn_sound (hok : okGs P N ops ops.toList l = true) (ht : TraceOk P l rs st) (hp : precOk ops prec = true) (hrc : pairsOk regClash prec 0 [] l = true) (hac : accsOk prec (rs.map (·.acc)) = true)
    (hQ : ∀ a' w' V' G', Rel W0 V0 Own N (runT l rs st) a' w' V' G' → Q .normal a' w') :
    ∀ (fuel : Nat) (listed : Array Bool) (a : Act) (w : World) (V : View) (G : Ctx), listed.size = ops.size → Closed ops listed → (List.range ops.size).countP (fun i => !isL listed i) ≤ fuel →
      Rel W0 V0 Own N (foldN l rs st (isL listed) ops.size) a w V G → wpAny P .any ops Q fuel listed a w := by
  have hlen : ops.size = l.length := by rw [← okGs_len hok, Array.length_toList]
  have hR := (pairsOk_spec hrc).2
  have hA := (pairsOk_spec hac).2
  simp only [Nat.zero_add] at hR hA
  have hopg : ∀ i, i < ops.size → ∃ o g r, ops[i]? = some o ∧ l[i]? = some g ∧ rs[i]? = some r ∧ StepOk P (runT (l.take i) (rs.take i) st) g r ∧ okG P N ops o g = true := by
    intro i hi
    have h1 : ops[i]? = some ops[i] := Array.getElem?_eq_getElem hi
    have h2 : l[i]? = some (l[i]'(by omega)) := List.getElem?_eq_getElem (by omega)
    obtain ⟨r, h3, h4⟩ := trace_get ht h2
    refine ⟨_, _, r, h1, h2, h3, h4, ?_⟩
    have : ∀ {os : List Oper} {gs : List GOp} {i : Nat} {o : Oper} {g : GOp}, okGs P N ops os gs = true → os[i]? = some o → gs[i]? = some g → okG P N ops o g = true := by
      intro os
      induction os with
      | nil => intro gs i o g _ h; simp at h
      | cons o' os ih =>
        intro gs i o g h h1 h2
        cases gs with
        | nil => simp at h2
        | cons g' gs =>
          simp only [okGs, Bool.and_eq_true] at h
          cases i with
          | zero => simp at h1 h2; subst h1; subst h2; exact h.1
          | succ i => exact ih h.2 (by simpa using h1) (by simpa using h2)
    exact this hok (by rw [Array.getElem?_toList]; exact h1) h2
  -- all are listed
  have hend : ∀ (listed : Array Bool) (a : Act) (w : World) (V : View) (G : Ctx), (∀ i, i < ops.size → isL listed i = true) → Rel W0 V0 Own N (foldN l rs st (isL listed) ops.size) a w V G → Q .normal a w := by
    intro listed a w V G hall hr
    rw [foldN_all ht (by omega) hall] at hr
    refine hQ a w V G ?_
    have e2 : rs.take ops.size = rs := by
      refine List.take_of_length_le ?_
      have : ∀ {l : List GOp} {rs : List Rec} {st : St}, TraceOk P l rs st → rs.length = l.length := by
        intro l
        induction l with
        | nil => intro rs st h; cases rs with | nil => rfl | cons _ _ => exact h.elim
        | cons g l ih => intro rs st h; cases rs with | nil => exact h.elim | cons r rs => simp [ih h.2]
      rw [this ht]; omega
    rwa [List.take_of_length_le (by omega), e2] at hr
  have hready : ∀ (listed : Array Bool), Region.ready .any ops listed = [] → listed.size = ops.size → ∀ i, i < ops.size → isL listed i = true := by
    intro listed hr hsz i
    induction i using Nat.strongRecOn with
    | _ i ih =>
      intro hi
      cases hb : isL listed i with
      | true => rfl
      | false =>
        exfalso
        have hmem : i ∈ Region.ready .any ops listed := by
          unfold Region.ready
          rw [List.mem_filter]
          refine ⟨List.mem_range.2 hi, ?_⟩
          have h1 : ops[i]? = some ops[i] := Array.getElem?_eq_getElem hi
          have hg : listed.getD i true = false := by
            unfold isL at hb
            simp only [Array.getD_eq_getD_getElem?] at hb ⊢
            rw [Array.getElem?_eq_getElem (by omega)] at hb ⊢
            exact hb
          rw [hg, h1]
          simp only [Bool.not_false, Bool.true_and, Option.map_some, Option.getD_some]
          rw [Array.all_eq_true']
          intro e he
          have he' : e ∈ (ops[i]).after.toList := by simpa using he
          by_cases hbd : Region.binds .any e = true
          · have := (precOk_spec hp h1).1 e he' hbd
            have h2 := ih e.on this (by omega)
            unfold isL at h2
            simp [h2]
          · simp [hbd]
        rw [hr] at hmem
        cases hmem
  intro fuel
  induction fuel with
  | zero =>
    intro listed a w V G hsz hc hcount hr
    have hall : ∀ i, i < ops.size → isL listed i = true := by
      intro i hi
      have h0 : (List.range ops.size).countP (fun i => !isL listed i) = 0 := by omega
      rw [List.countP_eq_zero] at h0
      have := h0 i (List.mem_range.2 hi)
      simpa using this
    refine ⟨?_, hend listed a w V G hall hr⟩
    unfold Region.ready
    rw [List.filter_eq_nil_iff]
    intro i hi
    have := hall i (List.mem_range.1 hi)
    have hg : listed.getD i true = true := by
      unfold isL at this
      simp only [Array.getD_eq_getD_getElem?] at this ⊢
      cases hh : listed[i]? with
      | none => rfl
      | some b => rw [hh] at this; exact this
    simp [hg]
  | succ fuel ih =>
    intro listed a w V G hsz hc hcount hr
    refine ⟨fun hrd => hend listed a w V G (hready listed hrd hsz) hr, fun i hi => ?_⟩
    unfold Region.ready at hi
    rw [List.mem_filter] at hi
    obtain ⟨hi, hx⟩ := hi
    have hi := List.mem_range.1 hi
    obtain ⟨o, g, r, h1, h2, h3, h4, h5⟩ := hopg i hi
    rw [h1] at hx
    simp only [Option.map_some, Option.getD_some, Bool.and_eq_true, Bool.not_eq_true'] at hx
    obtain ⟨hnl, hedge⟩ := hx
    have hnl' : isL listed i = false := by
      unfold isL
      simp only [Array.getD_eq_getD_getElem?] at hnl ⊢
      rw [Array.getElem?_eq_getElem (by omega)] at hnl ⊢
      exact hnl
    have hedges : ∀ e ∈ o.after.toList, Region.binds .any e = true → isL listed e.on = true := by
      intro e he hb
      rw [Array.all_eq_true'] at hedge
      have := hedge e (by simpa using he)
      rw [hb] at this
      simpa [isL] using this
    have hbefore : ∀ j, j ∈ prec.getD i [] → isL listed j = true := fun j hj => prec_listed hp hc i h1 hedges hj
    have hafter : ∀ j, j < ops.size → i ∈ prec.getD j [] → isL listed j = false := by
      intro j hj hij
      cases hb : isL listed j with
      | false => rfl
      | true =>
        obtain ⟨oj, _, _, hoj, _⟩ := hopg j hj
        have := prec_listed hp hc j hoj (hc j oj hb hoj) hij
        rw [hnl'] at this
        cases this
    -- who writes what this one looks at, or writes
    have hbelow : foldN l rs st (fun j => decide (j < i)) ops.size = runT (l.take i) (rs.take i) st := by
      rw [foldN_below (i := i) (by omega) (fun j hj => by simp; omega)]
      exact foldN_all ht (by omega) fun j hj => by simp [hj]
    have hbelow' : foldN l rs st (fun j => decide (j < i + 1)) ops.size = (runT (l.take i) (rs.take i) st).step g.2 r := by
      rw [foldN_below (i := i + 1) (by omega) (fun j hj => by simp; omega), foldN_all ht (by omega) fun j hj => by simp [hj]]
      exact runT_succ h2 h3
    have hregs : ∀ x, (x ∈ g.reads ∨ x ∈ g.writes) → ∀ j gj, j < ops.size → l[j]? = some gj → gj.2.dst = some x → j ≠ i → isL listed j = decide (j < i) := by
      intro x hx j gj hj hgj hd hne
      have hw : x ∈ gj.writes := by simp [GOp.writes, hd]
      rcases Nat.lt_or_ge j i with hlt | hge
      · have hcl : regClash gj g = true := by
          unfold regClash
          rcases hx with hx | hx
          · rw [meets_iff.2 ⟨x, hw, hx⟩]; simp
          · rw [show meets gj.writes g.writes = true from meets_iff.2 ⟨x, hw, hx⟩]; simp
        rw [hbefore j (hR j i gj g hlt hgj h2 hcl)]
        simp [hlt]
      · have hlt : i < j := by omega
        have hcl : regClash g gj = true := by
          unfold regClash
          rcases hx with hx | hx
          · rw [show meets g.reads gj.writes = true from meets_iff.2 ⟨x, hx, hw⟩]; simp
          · rw [show meets g.writes gj.writes = true from meets_iff.2 ⟨x, hx, hw⟩]; simp
        rw [hafter j hj (hR i j g gj hlt h2 hgj hcl)]
        simp; omega
    have hobs : ∀ k, (k ∈ r.acc.1 ∨ k ∈ r.acc.2) → ∀ j rj, j < ops.size → rs[j]? = some rj → (∃ p ∈ rj.u, p.1 = k) → j ≠ i → isL listed j = decide (j < i) := by
      intro k hk j rj hj hrj hd hne
      obtain ⟨oj, gj, rj', _, hgj, hrj', hsj, _⟩ := hopg j hj
      rw [hrj] at hrj'
      cases hrj'
      obtain ⟨p, hp', rfl⟩ := hd
      have hw : p.1 ∈ rj.acc.2 := step_keys hsj p hp'
      rcases Nat.lt_or_ge j i with hlt | hge
      · have hcl : accClash rj.acc r.acc = true := by
          unfold accClash
          rw [show meets rj.acc.2 (r.acc.1 ++ r.acc.2) = true from meets_iff.2 ⟨p.1, hw, List.mem_append.2 hk⟩]
          simp
        rw [hbefore j (hA j i _ _ hlt (accs_get hrj) (accs_get h3) hcl)]
        simp [hlt]
      · have hlt : i < j := by omega
        have hcl : accClash r.acc rj.acc = true := by
          unfold accClash
          rcases hk with hk | hk
          · rw [show meets r.acc.1 rj.acc.2 = true from meets_iff.2 ⟨p.1, hk, hw⟩]; simp
          · rw [show meets r.acc.2 (rj.acc.1 ++ rj.acc.2) = true from meets_iff.2 ⟨p.1, hk, List.mem_append.2 (.inr hw)⟩]; simp
        rw [hafter j hj (hA i j _ _ hlt (accs_get h3) (accs_get hrj) hcl)]
        simp; omega
    have hself : isL listed i = decide (i < i) := by rw [hnl']; simp
    have hstep : StepOk P (foldN l rs st (isL listed) ops.size) g r := by
      refine h4.frame (fun x hx => ?_) (fun k hk => ?_)
      · rw [← hbelow]
        refine foldN_reg fun j gj hj hgj hd => ?_
        by_cases hji : j = i
        · subst hji; exact hself.symm
        · exact (hregs x (.inl hx) j gj hj hgj hd hji).symm
      · rw [← hbelow]
        refine foldN_ob fun j rj hj hrj hd => ?_
        by_cases hji : j = i
        · subst hji; exact hself.symm
        · exact (hobs k hk j rj hj hrj hd hji).symm
    refine gop_sound h1 h5 hstep hr _ fun a' w' V' G' hr' => ?_
    have hsz' : i < listed.size := by omega
    refine ih (listed.setIfInBounds i true) a' w' V' G' (by simp [hsz]) ?_ ?_ (hr'.same ⟨fun x => ?_, fun k => ?_⟩)
    · intro j oj hlj hoj e he hb
      rw [isL_set hsz'] at hlj ⊢
      split
      · rfl
      · by_cases hji : j = i
        · subst hji
          rw [h1] at hoj
          cases hoj
          exact hedges e he hb
        · rw [if_neg hji] at hlj
          exact hc j oj hlj hoj e he hb
    · have hlt : (List.range ops.size).countP (fun j => !isL (listed.setIfInBounds i true) j) < (List.range ops.size).countP (fun j => !isL listed j) := by
        have gen : ∀ (xs : List Nat), i ∈ xs → xs.countP (fun j => !isL (listed.setIfInBounds i true) j) < xs.countP (fun j => !isL listed j) := by
          intro xs
          have hle : ∀ (ys : List Nat), ys.countP (fun j => !isL (listed.setIfInBounds i true) j) ≤ ys.countP (fun j => !isL listed j) := by
            intro ys
            refine List.countP_mono_left fun j _ hj => ?_
            rw [isL_set hsz'] at hj
            split at hj
            · simp at hj
            · exact hj
          induction xs with
          | nil => intro h; cases h
          | cons y ys ihx =>
            intro hmem
            rw [List.countP_cons, List.countP_cons]
            rcases List.mem_cons.1 hmem with rfl | hmem
            · have := hle ys
              rw [isL_set hsz', if_pos rfl, hnl']
              simp
              omega
            · have := ihx hmem
              have h2 : (if (!isL (listed.setIfInBounds i true) y) = true then 1 else 0) ≤ (if (!isL listed y) = true then 1 else 0) := by
                rw [isL_set hsz']
                by_cases hy : y = i
                · rw [if_pos hy]; simp
                · rw [if_neg hy]; exact Nat.le_refl _
              omega
        exact gen _ (List.mem_range.2 hi)
      omega
    · rw [step_reg]
      by_cases hd : g.2.dst = some x
      · rw [if_pos hd]
        have e1 : (foldN l rs st (isL (listed.setIfInBounds i true)) ops.size).reg x = (foldN l rs st (fun j => decide (j < i + 1)) ops.size).reg x := by
          refine foldN_reg fun j gj hj hgj hdj => ?_
          rw [isL_set hsz']
          by_cases hji : j = i
          · rw [if_pos hji]; simp; omega
          · rw [if_neg hji, hregs x (.inr (by simp [GOp.writes, hd])) j gj hj hgj hdj hji]
            simp; omega
        rw [e1, hbelow', step_reg, if_pos hd]
      · rw [if_neg hd]
        refine foldN_reg fun j gj hj hgj hdj => ?_
        rw [isL_set hsz', if_neg]
        intro e
        subst e
        rw [h2] at hgj
        cases hgj
        exact hd hdj
    · rw [step_ob]
      by_cases hd : ∃ p ∈ r.u, p.1 = k
      · have hkw : k ∈ r.acc.2 := by
          obtain ⟨p, hp', rfl⟩ := hd
          exact step_keys h4 p hp'
        have e1 : (foldN l rs st (isL (listed.setIfInBounds i true)) ops.size).ob k = (foldN l rs st (fun j => decide (j < i + 1)) ops.size).ob k := by
          refine foldN_ob fun j rj hj hrj hdj => ?_
          rw [isL_set hsz']
          by_cases hji : j = i
          · rw [if_pos hji]; simp; omega
          · rw [if_neg hji, hobs k (.inr hkw) j rj hj hrj hdj hji]
            simp; omega
        rw [e1, hbelow', step_ob]
        exact updO_mem hd
      · rw [updO_other fun p hp e => hd ⟨p, hp, e⟩]
        refine foldN_ob fun j rj hj hrj hdj => ?_
        rw [isL_set hsz', if_neg]
        intro e
        subst e
        rw [h3] at hrj
        cases hrj
        exact hd hdj
end
end Go.AM
