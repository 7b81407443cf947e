/- Calls that hand objects on. -/
import Derived.Test.YtapfnhhedieebaaAMW
namespace Go.AM
open Go
set_option linter.unusedVariables false
set_option linter.unusedSimpArgs false
def idxM : Nat → List Nat → List (Nat × Nat)
  | _, [] => []
  | n, k :: r => (k, n) :: idxM (n + 1) r
def getObs (st : St) : List Nat → Option (List Ob)
  | [] => some []
  | k :: r => match st.ob k with
    | some o => (getObs st r).map (o :: ·)
    | none => none
def mapOb (m : List (Nat × Nat)) : List Ob → List Ob
  | [] => []
  | o :: r => renOb m o :: mapOb m r
def putAll (st : St) : List Nat → List Ob → St
  | k :: ks, o :: os => putAll (st.put k o) ks os
  | _, _ => st
def allNone (st : St) : List Nat → Bool
  | [] => true
  | k :: r => (match st.ob k with | none => true | some _ => false) && allNone st r
/-- A call that hands objects on: those of pass, in that order; what comes back beside them gets the names of new. -/
def acall (P : Program) (d : Option Nat) (c : Cal) (args : List Arg) (pass new : List Nat) (st : St) (K : St → Prop) : Prop :=
  ∃ f caps obs R, callee st.ev c = some (f, caps) ∧ getObs st pass = some obs ∧ allNone st new = true ∧
    Ctr P f (renL (idxM 0 pass) (args.map st.ev ++ caps)) (mapOb (idxM 0 pass) obs) R ∧
    ∀ res obs', R res obs' → obs'.length = pass.length + new.length ∧ K ((putAll st (pass ++ new) (mapOb (invL (idxM 0 (pass ++ new))) obs')).setO d (ren (invL (idxM 0 (pass ++ new))) (resA res)))
section
variable {W0 : World} {V0 : View} {Own : Fra} {P : Program} {N : Nat} {o : Oper} {w w' : World} {V V' : View} {G G' : Ctx} {st : St} {a : Act} {μ : Nat → Option Ob} {Q : Exit → Act → World → Prop}
theorem idx_get : ∀ {ks : List Nat} {n i : Nat}, optA (invL (idxM n ks)) i = if n ≤ i then ks[i - n]? else none
  | [], n, i => by simp [idxM, invL, optA]
  | k :: r, n, i => by
    simp only [idxM, invL, optA]
    cases hb : Nat.beq n i with
    | true =>
      have := Nat.eq_of_beq_eq_true hb
      subst this
      simp
    | false =>
      have hne : n ≠ i := fun e => by rw [e, Nat.beq_refl] at hb; cases hb
      simp only [cond_false]
      rw [idx_get]
      by_cases h : n ≤ i
      · rw [if_pos h, if_pos (by omega), show i - n = (i - (n + 1)) + 1 by omega, List.getElem?_cons_succ]
      · rw [if_neg h, if_neg (by omega)]
theorem getObs_get : ∀ {ks : List Nat} {obs : List Ob} {i : Nat}, getObs st ks = some obs → obs[i]? = (ks[i]?).bind st.ob
  | [], obs, i, h => by simp [getObs] at h; subst h; simp
  | k :: r, obs, i, h => by
    simp only [getObs] at h
    split at h
    · rename_i o ho
      obtain ⟨l, hl, rfl⟩ := Option.map_eq_some_iff.1 h
      cases i with
      | zero => simp [ho]
      | succ i => simpa using getObs_get (i := i) hl
    · cases h
theorem getObs_len : ∀ {ks : List Nat} {obs : List Ob}, getObs st ks = some obs → obs.length = ks.length
  | [], obs, h => by simp [getObs] at h; subst h; rfl
  | k :: r, obs, h => by
    simp only [getObs] at h
    split at h
    · obtain ⟨l, hl, rfl⟩ := Option.map_eq_some_iff.1 h
      simp [getObs_len hl]
    · cases h
theorem mapOb_get {m : List (Nat × Nat)} : ∀ {obs : List Ob} {i : Nat}, (mapOb m obs)[i]? = (obs[i]?).map (renOb m)
  | [], i => by simp [mapOb]
  | o :: r, 0 => by simp [mapOb]
  | o :: r, i + 1 => by simpa [mapOb] using mapOb_get (obs := r) (i := i)
theorem putAll_reg : ∀ {ks : List Nat} {os : List Ob} {st : St} {i : Nat}, (putAll st ks os).reg i = st.reg i
  | [], os, st, i => by simp [putAll]
  | k :: ks, [], st, i => by simp [putAll]
  | k :: ks, o :: os, st, i => by rw [putAll, putAll_reg]; rfl
theorem idx_mem {ks : List Nat} {n i k : Nat} (h : (k, i) ∈ idxM n ks) : n ≤ i ∧ ks[i - n]? = some k := by
  induction ks generalizing n with
  | nil => cases h
  | cons x r ih =>
    simp only [idxM, List.mem_cons, Prod.mk.injEq] at h
    rcases h with ⟨rfl, rfl⟩ | h
    · simp
    · obtain ⟨h1, h2⟩ := ih h
      refine ⟨by omega, ?_⟩
      rw [show i - n = (i - (n + 1)) + 1 by omega, List.getElem?_cons_succ]
      exact h2
theorem putAll_ob : ∀ {ks : List Nat} {os : List Ob} {st : St} {j : Nat}, ks.length = os.length → (∀ (i k : Nat), i < k → ∀ x y, ks[i]? = some x → ks[k]? = some y → x ≠ y) →
    (∀ i : Nat, ks[i]? = some j → (putAll st ks os).ob j = os[i]?) ∧ ((∀ i : Nat, ks[i]? ≠ some j) → (putAll st ks os).ob j = st.ob j)
  | [], os, st, j, h, _ => ⟨fun i hi => by simp at hi, fun _ => by simp [putAll]⟩
  | k :: ks, [], st, j, h, _ => by simp at h
  | k :: ks, o :: os, st, j, h, hu => by
    obtain ⟨h1, h2⟩ := putAll_ob (ks := ks) (os := os) (st := st.put k o) (j := j) (by simpa using h) fun i k' hik x y hx hy => hu (i + 1) (k' + 1) (by omega) x y (by simpa using hx) (by simpa using hy)
    refine ⟨fun i hi => ?_, fun hi => ?_⟩
    · cases i with
      | zero =>
        simp at hi
        subst hi
        rw [putAll, h2, St.ob_put, if_pos rfl]
        · rfl
        · intro i e
          exact hu 0 (i + 1) (by omega) k k rfl (by simpa using e) rfl
      | succ i =>
        rw [putAll, h1 i (by simpa using hi)]
        rfl
    · rw [putAll, h2 fun i e => hi (i + 1) (by simpa using e), St.ob_put, if_neg]
      intro e
      exact hi 0 (by simp [e])
theorem Sat.rebase (hs : Sat W0 V0 Own V G w μ) : Sat w V G.owns V G w μ where
  keep := ⟨rfl, rfl, rfl, Nat.le_refl _, fun _ _ _ => rfl⟩
  view := hs.view
  vle := View.le_refl _
  vnew := fun _ _ _ => rfl
  obs := hs.obs
  dom := hs.dom
  priv := fun k s b e hb => ⟨(hs.priv k s b e hb).1, .inl ⟨k, s, e, hb⟩, (hs.priv k s b e hb).2.2⟩
  inj := hs.inj
  loc := fun k s b e hb _ => ⟨s, e, hb⟩
theorem Sat.weak (hs : Sat W0 V0 Own V G w μ) : Sat W0 V0 ⟨Own.own, fun _ _ => True, Own.ctx⟩ V G w μ where
  keep := ⟨hs.keep.os, hs.keep.tape, hs.keep.output, hs.keep.size, hs.keep.block⟩
  view := hs.view
  vle := hs.vle
  vnew := hs.vnew
  obs := hs.obs
  dom := hs.dom
  priv := hs.priv
  inj := hs.inj
  loc := fun _ _ _ _ _ _ => trivial
theorem keysOk_distinct {ks : List Nat} (h : keysOk (idxM 0 ks) = true) : ∀ (i k : Nat), i < k → ∀ x y, ks[i]? = some x → ks[k]? = some y → x ≠ y := by
  intro i k hik x y hx hy e
  subst e
  have h1 : optA (invL (idxM 0 ks)) i = some x := by rw [idx_get, if_pos (Nat.zero_le _), Nat.sub_zero]; exact hx
  have h2 : optA (invL (idxM 0 ks)) k = some x := by rw [idx_get, if_pos (Nat.zero_le _), Nat.sub_zero]; exact hy
  rw [optA_inv h] at h1 h2
  rw [h1] at h2
  cases h2
  omega
theorem call_sound {d : Option Nat} {c : Cal} {args : List Arg} {pass new : List Nat} {y : Operand} {as : Array Operand} {ts : Array TypeId} {K : St → Prop} (ho : o.op = .call { callee := .value y, args := as, argTypes := ts }) (hd : o.dst = d) (hN : ∀ j, d = some j → j < N)
    (hc : okCal c y P = true) (has : okAs args as.toList = true) (hk : keysOk (idxM 0 (pass ++ new)) = true) (hp : keysOk (idxM 0 pass) = true) (h : acall P d c args pass new st K) (hr : Rel W0 V0 Own N st a w V G) (next : Act → World → Prop)
    (hn : ∀ st' a' w' V' G', K st' → Rel W0 V0 Own N st' a' w' V' G' → next a' w') : o.wp P a w next Q := by
  obtain ⟨f, caps, obs, R, hcal, hobs, hfresh, ⟨hf, hctr⟩, hR⟩ := h
  obtain ⟨vs, hrun, hrep⟩ := run_call (w := w) (args := args) ho hc hf hcal (hr.args _) has
  have hs := hr.sat
  unfold Oper.wp
  rw [hrun, Oper.upon_enter]
  have hsc : Sat w V (renC (idxM 0 pass) G).owns V (renC (idxM 0 pass) G) w (fun i => (mapOb (idxM 0 pass) obs)[i]?) := by
    have h1 := (hs.weak.ren hp (fun _ _ _ _ _ => trivial)).rebase
    have e : (fun i => (mapOb (idxM 0 pass) obs)[i]?) = renM (idxM 0 pass) st.ob := by
      funext i
      unfold renM
      rw [mapOb_get, getObs_get hobs, idx_get, if_pos (Nat.zero_le _), Nat.sub_zero]
      cases pass[i]? <;> rfl
    rw [e]
    exact h1
  refine (hctr V _ w vs hsc (hrep.ren (renC_spec hp))).mono ?_
  rintro e w' ⟨V', G', val, res, obs', hres, rfl, hrr, hle, hs'⟩
  obtain ⟨hlen, hK⟩ := hR res obs' hres
  refine hn _ _ w' V' (fun j => match optA (idxM 0 (pass ++ new)) j with | some i => G' i | none => G j) hK ?_
  have hdist := keysOk_distinct hk
  have hpl := getObs_len hobs
  -- which objects the callee was given
  have hGc : ∀ (i : Nat) s, renC (idxM 0 pass) G i = some s → ∃ k, pass[i]? = some k ∧ G k = some s := by
    intro i s e
    unfold renC at e
    rw [idx_get, if_pos (Nat.zero_le _), Nat.sub_zero] at e
    cases hk : pass[i]? with
    | none => rw [hk] at e; cases e
    | some k => rw [hk] at e; exact ⟨k, rfl, e⟩
  have hGc' : ∀ (i k : Nat), pass[i]? = some k → renC (idxM 0 pass) G i = G k := by
    intro i k e
    unfold renC
    rw [idx_get, if_pos (Nat.zero_le _), Nat.sub_zero, e]
    rfl
  have hidx : ∀ (i k : Nat), (pass ++ new)[i]? = some k → optA (idxM 0 (pass ++ new)) k = some i := by
    intro i k e
    rw [← optA_inv hk, idx_get, if_pos (Nat.zero_le _), Nat.sub_zero]
    exact e
  have hidx' : ∀ (i k : Nat), optA (idxM 0 (pass ++ new)) k = some i → (pass ++ new)[i]? = some k := by
    intro i k e
    rw [← optA_inv hk, idx_get, if_pos (Nat.zero_le _), Nat.sub_zero] at e
    exact e
  have hpn : ∀ (i k : Nat), pass[i]? = some k → (pass ++ new)[i]? = some k := by
    intro i k e
    rw [List.getElem?_append_left (getElem?_lt e)]
    exact e
  have hnewk : ∀ (j i : Nat), optA (idxM 0 (pass ++ new)) j = some i → ∀ s, G j = some s → pass[i]? = some j := by
    intro j i e s hg
    have h1 := hidx' i j e
    rcases Nat.lt_or_ge i pass.length with hi | hi
    · rw [List.getElem?_append_left hi] at h1
      exact h1
    · exfalso
      rw [List.getElem?_append_right hi] at h1
      have hmem : j ∈ new := List.mem_of_getElem? h1
      have hno : st.ob j = none := by
        clear hs' hle hrr hctr hsc hR hidx hidx' hdist hk hpn e h1 hlen hK hres
        induction new with
        | nil => cases hmem
        | cons x r ih =>
          simp only [allNone, Bool.and_eq_true] at hfresh
          rcases List.mem_cons.1 hmem with rfl | hmem
          · have := hfresh.1
            split at this
            · rename_i hx; exact hx
            · cases this
          · exact ih hfresh.2 hmem
      obtain ⟨ob, hob⟩ := hs.dom j s hg
      rw [hno] at hob
      cases hob
  have hown : ∀ b, (renC (idxM 0 pass) G).owns.own b → ∃ (i k : Nat) (s : Sh), pass[i]? = some k ∧ G k = some s ∧ s.block = some b := by
    rintro b ⟨i, s, e, hb⟩
    obtain ⟨k, h1, h2⟩ := hGc i s e
    exact ⟨i, k, s, h1, h2, hb⟩
  have hleG : G.le (fun j => match optA (idxM 0 (pass ++ new)) j with | some i => G' i | none => G j) := by
    intro j s hg
    simp only
    cases hj : optA (idxM 0 (pass ++ new)) j with
    | none => exact ⟨s, hg, s.le_refl⟩
    | some i => exact hle i s (by rw [hGc' i j (hnewk j i hj s hg)]; exact hg)
  have hback : ∀ (i k : Nat), optA (invL (idxM 0 (pass ++ new))) i = some k → (fun j => match optA (idxM 0 (pass ++ new)) j with | some i => G' i | none => G j) k = G' i := by
    intro i k e
    have := (optA_inv hk).1 e
    simp only [this]
  have hlenk : (pass ++ new).length = (mapOb (invL (idxM 0 (pass ++ new))) obs').length := by
    have : ∀ (l : List Ob), (mapOb (invL (idxM 0 (pass ++ new))) l).length = l.length := by
      intro l
      induction l with
      | nil => rfl
      | cons x r ih => simp [mapOb, ih]
    rw [this, hlen, List.length_append]
  have hput := fun j => putAll_ob (st := st) (j := j) hlenk hdist
  have hbsame : ∀ j s b, optA (idxM 0 (pass ++ new)) j = none → G j = some s → s.block = some b → w'.heap[b]? = w.heap[b]? := by
    intro j s b hj hg hb
    refine hs'.keep.block b (hs.priv j s b hg hb).1 fun hown' => ?_
    obtain ⟨i, k, s2, h1, h2, h3⟩ := hown b hown'
    have := hs.inj j k s s2 b hg h2 hb h3
    subst this
    rw [hidx i j (hpn i j h1)] at hj
    cases hj
  refine ⟨?_, fun i => ?_, ?_, ?_, Ctx.le_trans hr.ini hleG⟩
  · rw [St.setO_ob]
    refine ⟨?_, hs'.view, View.le_trans hs.vle hs'.vle, fun b o hb => ?_, fun j ob e => ?_, fun j s e => ?_, fun j s b e hb => ?_, fun j j' s1 s2 b e1 e2 h1 h2 => ?_, fun j s b e hb hlt => ?_⟩
    · refine hs.keep.of_le hs'.keep.os hs'.keep.tape hs'.keep.output hs'.keep.size fun b h1 h2 => ?_
      refine hs'.keep.block b (Nat.lt_of_lt_of_le h1 hs.keep.size) fun hown' => ?_
      obtain ⟨i, k, s, _, g2, g3⟩ := hown b hown'
      rcases (hs.priv k s b g2 g3).2.1 with g | g
      · exact h2 g
      · omega
    · rw [hs'.vnew b o (Nat.lt_of_lt_of_le hb hs.keep.size)]
      exact hs.vnew b o hb
    · try simp only
      cases hj : optA (idxM 0 (pass ++ new)) j with
      | some i =>
        rw [(hput j).1 i (hidx' i j hj), mapOb_get, Option.map_eq_some_iff] at e
        obtain ⟨ob0, e0, rfl⟩ := e
        obtain ⟨s, hg, hob⟩ := hs'.obs i ob0 e0
        exact ⟨s, hg, hob.ren hback⟩
      | none =>
        rw [(hput j).2 fun i hi => by rw [hidx i j hi] at hj; cases hj] at e
        obtain ⟨s, hg, hob⟩ := hs.obs j ob e
        exact ⟨s, hg, hob.mono hs'.vle hleG fun b hb => hbsame j s b hj hg hb⟩
    · try simp only at e
      cases hj : optA (idxM 0 (pass ++ new)) j with
      | some i =>
        rw [hj] at e
        obtain ⟨ob, e0⟩ := hs'.dom i s e
        rw [(hput j).1 i (hidx' i j hj), mapOb_get, e0]
        exact ⟨_, rfl⟩
      | none =>
        rw [hj] at e
        obtain ⟨ob, e0⟩ := hs.dom j s e
        rw [(hput j).2 fun i hi => by rw [hidx i j hi] at hj; cases hj]
        exact ⟨ob, e0⟩
    · try simp only at e
      cases hj : optA (idxM 0 (pass ++ new)) j with
      | some i =>
        rw [hj] at e
        obtain ⟨p1, p2, p3⟩ := hs'.priv i s b e hb
        refine ⟨p1, ?_, p3⟩
        rcases p2 with p2 | p2
        · obtain ⟨i', k, s2, _, g2, g3⟩ := hown b p2
          exact (hs.priv k s2 b g2 g3).2.1
        · exact .inr (Nat.le_trans hs.keep.size p2)
      | none =>
        rw [hj] at e
        obtain ⟨p1, p2, p3⟩ := hs.priv j s b e hb
        exact ⟨Nat.lt_of_lt_of_le p1 hs'.keep.size, p2, fun o => by rw [hs'.vnew b o p1]; exact p3 o⟩
    · have mixed : ∀ j j' i s1 s2, optA (idxM 0 (pass ++ new)) j = some i → optA (idxM 0 (pass ++ new)) j' = none → G' i = some s1 → G j' = some s2 → s1.block = some b → s2.block = some b → False := by
        intro j j' i s1 s2 hj hj' e1 e2 h1 h2
        have q := (hs.priv j' s2 b e2 h2).1
        rcases (hs'.priv i s1 b e1 h1).2.1 with p2 | p2
        · obtain ⟨i', k, s3, g1, g2, g3⟩ := hown b p2
          have := hs.inj j' k s2 s3 b e2 g2 h2 g3
          subst this
          rw [hidx i' j' (hpn i' j' g1)] at hj'
          cases hj'
        · omega
      try simp only at e1 e2
      cases hj : optA (idxM 0 (pass ++ new)) j with
      | some i =>
        rw [hj] at e1
        cases hj' : optA (idxM 0 (pass ++ new)) j' with
        | some i' =>
          rw [hj'] at e2
          have := hs'.inj i i' s1 s2 b e1 e2 h1 h2
          subst this
          have q1 := hidx' _ _ hj
          have q2 := hidx' _ _ hj'
          rw [q1] at q2
          cases q2
          rfl
        | none =>
          rw [hj'] at e2
          exact (mixed j j' i s1 s2 hj hj' e1 e2 h1 h2).elim
      | none =>
        rw [hj] at e1
        cases hj' : optA (idxM 0 (pass ++ new)) j' with
        | some i' =>
          rw [hj'] at e2
          exact (mixed j' j i' s2 s1 hj' hj e2 e1 h2 h1).elim
        | none =>
          rw [hj'] at e2
          exact hs.inj j j' s1 s2 b e1 e2 h1 h2
    · try simp only at e
      cases hj : optA (idxM 0 (pass ++ new)) j with
      | some i =>
        rw [hj] at e
        obtain ⟨s0, e0, hb0⟩ := hs'.loc i s b e hb (Nat.lt_of_lt_of_le hlt hs.keep.size)
        obtain ⟨k, g1, g2⟩ := hGc i s0 e0
        have := hidx' i j hj
        rw [hpn i k g1] at this
        cases this
        exact hs.loc _ s0 b g2 hb0 hlt
      | none =>
        rw [hj] at e
        exact hs.loc j s b e hb hlt
  · rw [St.setO_reg, putAll_reg, hd, put_getD (fun j hj => by rw [hr.size]; exact hN j hj)]
    split
    · exact hrr.rep.ren hback
    · exact (hr.regs i).mono hs'.vle hleG
  · rw [hd]
    cases d with
    | none => exact hr.size
    | some d => simp [Act.put, hr.size]
  · rw [hd]
    cases d with
    | none => exact hr.defers
    | some d => exact hr.defers
end
end Go.AM
