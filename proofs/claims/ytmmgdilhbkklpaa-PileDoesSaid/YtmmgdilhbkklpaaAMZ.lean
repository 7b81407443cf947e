/- A function's contract, out of what the abstract machine says of its code. -/
import Derived.Test.YtmmgdilhbkklpaaAMY
namespace Go.AM
open Go
set_option linter.unusedVariables false
set_option linter.unusedSimpArgs false
def initL {α : Type} : Nat → List α → List (Nat × α)
  | _, [] => []
  | n, x :: r => (n, x) :: initL (n + 1) r
def upFrom : Nat → Nat → List Nat
  | _, 0 => []
  | k, n + 1 => k :: upFrom (k + 1) n
/-- Where a result is: in a register, or in a variable whose address a register has. -/
inductive RV where
  | tmp (i : Nat)
  | cell (i n : Nat) (ag : Bool)
def resOne (st : St) : RV → Option AV
  | .tmp i => some (st.reg i)
  | .cell i n ag => match st.reg i with
    | .rp c => loadV ag n c
    | .ref k off => match st.ob k with
      | some (.pbox c) => loadV ag n (c.drop off)
      | some (.box c) => bif ag then none else loadV false n (c.drop off)
      | _ => none
    | _ => none
def mapR (st : St) : List RV → Option (List AV)
  | [] => some []
  | i :: r => match resOne st i with
    | some x => (mapR st r).map (x :: ·)
    | none => none
/-- What is to hold where a function ends: its results, and its objects (those that it was given, and those of ek). -/
def afin (nk : Nat) (ri : List RV) (ek : List Nat) (R : List AV → List Ob → Prop) : AEx → St → Prop
  | .exit _, _ => False
  | _, st => ∃ os rs, getObs st (upFrom 0 nk ++ ek) = some os ∧ mapR st ri = some rs ∧ R (renL (idxM 0 (upFrom 0 nk ++ ek)) rs) (mapOb (idxM 0 (upFrom 0 nk ++ ek)) os)
def okRes (P : Program) : List ResultVar → List RV → Bool
  | [], [] => true
  | .tmp t :: r, .tmp i :: l => Nat.beq t i && okRes P r l
  | .cell q t :: r, .cell i n ag :: l => Nat.beq q i && Nat.beq (P.cellsOf t) n && (P.info? t).isSome && (isAggT P t == ag) && (P.underlying t).isSome && okRes P r l
  | _, _ => false
def okFun (P : Program) (f N nk : Nat) (x : ACode) (ri : List RV) (ek : List Nat) : Bool :=
  match P.funcs[f]? with
  | some fn => fn.name != "runtime.NumGoroutine" && Nat.beq fn.ntmps N && okRes P fn.results.toList ri && keysOk (idxM 0 (upFrom 0 nk ++ ek)) &&
      (match fn.body with | some c => okc P N nk c x | none => false)
  | none => false
section
variable {P : Program} {N nk : Nat} {V : View} {G : Ctx} {st : St}
theorem initL_opt {α : Type} : ∀ {l : List α} {n i : Nat}, optA (initL n l) i = if n ≤ i then l[i - n]? else none
  | [], n, i => by simp [initL, optA]
  | x :: r, n, i => by
    simp only [initL, optA]
    cases hb : Nat.beq n i with
    | true =>
      have := Nat.eq_of_beq_eq_true hb
      subst this
      simp
    | false =>
      have hne : n ≠ i := fun e => by rw [e, Nat.beq_refl] at hb; cases hb
      simp only [cond_false]
      rw [initL_opt]
      by_cases h : n ≤ i
      · rw [if_pos h, if_pos (by omega), show i - n = (i - (n + 1)) + 1 by omega, List.getElem?_cons_succ]
      · rw [if_neg h, if_neg (by omega)]
theorem getA_opt {α : Type} (d : α) : ∀ {l : List (Nat × α)} {i : Nat}, getA d l i = (optA l i).getD d
  | [], i => rfl
  | (j, x) :: r, i => by
    simp only [getA, optA]
    cases Nat.beq j i
    · exact getA_opt d
    · rfl
theorem upFrom_get : ∀ {n k i : Nat}, (upFrom k n)[i]? = if i < n then some (k + i) else none
  | 0, k, i => by simp [upFrom]
  | n + 1, k, 0 => by simp [upFrom]
  | n + 1, k, i + 1 => by
    simp only [upFrom, List.getElem?_cons_succ]
    rw [upFrom_get]
    by_cases h : i < n
    · rw [if_pos h, if_pos (by omega)]
      congr 1
      omega
    · rw [if_neg h, if_neg (by omega)]
def resS (tmps : Array Value) : ResultVar → Sem Value
  | .tmp t => pure (tmps.getD t undef)
  | .cell a t => do loadVar t (← asAddr (tmps.getD a undef))
def resV : List Value → Value
  | [v] => v
  | vs => .tuple vs.toArray
theorem res_one {W0 : World} {V0 : View} {Own : Fra} {a : Act} {w : World} {x : AV} (hr : Rel W0 V0 Own N st a w V G) {r : ResultVar} {q : RV} {rs : List ResultVar} {qs : List RV} (hok : okRes P (r :: rs) (q :: qs) = true) (h : resOne st q = some x) :
    ∃ v, (resS a.tmps r).run P w = .ok v w ∧ Rep V G x v := by
  cases r with
  | tmp t =>
    cases q with
    | cell _ _ _ => simp [okRes] at hok
    | tmp i =>
      simp only [okRes, Bool.and_eq_true] at hok
      have := Nat.eq_of_beq_eq_true hok.1
      subst this
      simp only [resOne, Option.some.injEq] at h
      subst h
      exact ⟨_, rfl, hr.regs t⟩
  | cell p t =>
    cases q with
    | tmp _ => simp [okRes] at hok
    | cell i n ag =>
      simp only [okRes, Bool.and_eq_true, beq_iff_eq] at hok
      obtain ⟨⟨⟨⟨⟨h1, h2⟩, hi⟩, hag⟩, hu⟩, _⟩ := hok
      have := Nat.eq_of_beq_eq_true h1
      subst this
      have hn := Nat.eq_of_beq_eq_true h2
      have hx := hr.regs p
      have key : ∀ (b of : Nat) (v : Value), a.tmps.getD p undef = .pointer (some ⟨b, of, none⟩) → (loadVar t ⟨b, of, none⟩).run P w = .ok v w → (resS a.tmps (.cell p t)).run P w = .ok v w := by
        intro b of v hv hl
        simp only [resS, hv, asAddr, Sem.run_bind, Sem.run_pure, Result.andThen_ok, hl]
      simp only [resOne] at h
      split at h
      · rename_i c he
        rw [he] at hx
        simp only [Rep, RepP] at hx
        obtain ⟨b, of, hv, hrc⟩ := hx
        obtain ⟨us, hp, hq⟩ := hrc.vals
        obtain ⟨val, g1, g2⟩ := run_loadVar_p hn hi hag hu hp (fun j x hx => hr.sat.view _ _ _ (hq j x hx).1) h
        exact ⟨val, key _ _ _ hv g1, g2.rep G⟩
      · rename_i k of he
        rw [he] at hx
        simp only [Rep] at hx
        obtain ⟨b, hg, hv⟩ := hx
        split at h
        · rename_i c hm
          obtain ⟨s, hgs, hob⟩ := hr.sat.obs _ _ hm
          rw [hg] at hgs
          cases hgs
          obtain ⟨us, T, hh, hp, _⟩ := hob
          obtain ⟨val, g1, g2⟩ := run_loadVar_p (b := b) (of := of) hn hi hag hu (hp.drop of) (fun j x hx => cell_of hh (by rw [List.getElem?_drop] at hx; exact hx)) h
          exact ⟨val, key _ _ _ hv g1, g2.rep G⟩
        · rename_i c hm
          obtain ⟨s, hgs, hob⟩ := hr.sat.obs _ _ hm
          rw [hg] at hgs
          cases hgs
          obtain ⟨us, T, hh, hp, _⟩ := hob
          cases ag with
          | true => simp at h
          | false =>
            simp only [cond_false] at h
            obtain ⟨val, g1, g2⟩ := run_loadVar_m (b := b) (of := of) hag hu (hp.drop of) (fun j x hx => cell_of hh (by rw [List.getElem?_drop] at hx; exact hx)) h
            exact ⟨val, key _ _ _ hv g1, g2⟩
        · cases h
      · cases h
theorem res_all {W0 : World} {V0 : View} {Own : Fra} {a : Act} {w : World} (hr : Rel W0 V0 Own N st a w V G) : ∀ {l : List ResultVar} {ri : List RV} {xs : List AV}, okRes P l ri = true → mapR st ri = some xs → ∃ vs, (l.mapM (resS a.tmps)).run P w = .ok vs w ∧ RepL V G xs vs
  | [], [], xs, _, h => by
    simp only [mapR, Option.some.injEq] at h
    subst h
    exact ⟨[], rfl, by simp [RepL]⟩
  | [], _ :: _, xs, h, _ => by simp [okRes] at h
  | r :: l, [], xs, h, _ => by cases r <;> simp [okRes] at h
  | r :: l, q :: ri, xs, hok, h => by
    simp only [mapR] at h
    split at h
    · rename_i x hx
      obtain ⟨ys, hy, rfl⟩ := Option.map_eq_some_iff.1 h
      obtain ⟨v, h1, h2⟩ := res_one hr hok hx
      have hok' : okRes P l ri = true := by
        cases r <;> cases q <;> simp only [okRes, Bool.and_eq_true] at hok
        · exact hok.2
        · cases hok
        · cases hok
        · exact hok.2
      obtain ⟨vs, h3, h4⟩ := res_all hr hok' hy
      refine ⟨v :: vs, ?_, ?_⟩
      · simp only [List.mapM_cons, Sem.run_bind, h1, Result.andThen_ok, h3, Sem.run_pure]
      · simp only [RepL]
        exact ⟨v, vs, rfl, h2, h4⟩
    · cases h
theorem run_results {fn : Func} {tmps : Array Value} {w : World} {vs : List Value} (h : (fn.results.toList.mapM (resS tmps)).run P w = .ok vs w) : (results fn tmps).run P w = .ok (resV vs) w := by
  have he : results fn tmps = (do let vs ← fn.results.mapM (resS tmps); pure (if h : vs.size = 1 then vs[0] else .tuple vs)) := by
    unfold results
    congr 1
  rw [he, Sem.run_bind, Array.mapM_eq_mapM_toList, Sem.run_map, h]
  simp only [Result.andThen_ok]
  match vs with
  | [] => rfl
  | [i] => rfl
  | i :: j :: r => rfl
theorem ctr_of {f : Nat} {x : ACode} {ri : List RV} {ek : List Nat} {args : List AV} {obs : List Ob} {R : List AV → List Ob → Prop} (hok : okFun P f N nk x ri ek = true) (hobs : obs.length = nk) (hargs : args.length ≤ N)
    (h : awp P x ⟨initL 0 args, initL 0 obs⟩ (afin nk ri ek R)) : Ctr P f args obs R := by
  unfold okFun at hok
  split at hok
  · rename_i fn hfn
    simp only [Bool.and_eq_true] at hok
    obtain ⟨⟨⟨⟨hname, hN⟩, hres⟩, hk⟩, hbody⟩ := hok
    split at hbody
    · rename_i c hc
      have hN := Nat.eq_of_beq_eq_true hN
      refine ⟨by unfold okFn; rw [hfn]; simp only [hc, Option.isSome_some, Bool.true_and]; exact hname, fun V G w vs hs hrep => ?_⟩
      have hvl := hrep.length
      have hdom : ∀ k s, G k = some s → k < nk := by
        intro k s e
        obtain ⟨ob, e'⟩ := hs.dom k s e
        rw [← hobs]
        exact getElem?_lt e'
      refine calls_of_wp hfn hc ?_
      have hob : (St.mk (initL 0 args) (initL 0 obs)).ob = fun k => obs[k]? := by
        funext k
        show optA (initL 0 obs) k = _
        rw [initL_opt, if_pos (Nat.zero_le _), Nat.sub_zero]
      have hrel : Rel w V G.owns N ⟨initL 0 args, initL 0 obs⟩ { tmps := vs.toArray ++ Array.replicate (fn.ntmps - vs.toArray.size) undef, defers := [] } w V G := by
        refine ⟨by rw [hob]; exact hs, fun i => ?_, ?_, rfl, Ctx.le_refl _⟩
        · show Rep V G (getA .dead (initL 0 args) i) _
          rw [getA_opt, initL_opt, if_pos (Nat.zero_le _), Nat.sub_zero]
          cases ha : args[i]? with
          | none => simp only [Option.getD_none, Rep]
          | some x =>
            obtain ⟨v, hv, hx⟩ := hrep.get ha
            have : (vs.toArray ++ Array.replicate (fn.ntmps - vs.toArray.size) undef).getD i undef = v := by
              rw [Array.getD_eq_getD_getElem?, Array.getElem?_append_left (by simpa using getElem?_lt hv)]
              simp [hv]
            rw [this]
            exact hx
        · simp
          omega
      refine code_sound (nk := nk) (Own := G.owns) (fun k b hk => ?_) (fun k s e => hdom k s e) hbody h hrel ?_
      · obtain ⟨s, e, _⟩ := hk
        exact hdom k s e
      intro ae st' a' w' V' G' hq hr'
      have hfin : ∃ os rs, getObs st' (upFrom 0 nk ++ ek) = some os ∧ mapR st' ri = some rs ∧ R (renL (idxM 0 (upFrom 0 nk ++ ek)) rs) (mapOb (idxM 0 (upFrom 0 nk ++ ek)) os) := by
        cases ae with
        | exit id => exact hq.elim
        | normal => exact hq
        | ret => exact hq
      obtain ⟨os, rs, ho, hmr, hR⟩ := hfin
      have hlow : ∀ k, k < nk → optA (idxM 0 (upFrom 0 nk ++ ek)) k = some k := by
        intro k hk'
        rw [← optA_inv hk, idx_get, if_pos (Nat.zero_le _), Nat.sub_zero]
        have hu : (upFrom 0 nk)[k]? = some k := by rw [upFrom_get, if_pos hk', Nat.zero_add]
        rw [List.getElem?_append_left (getElem?_lt hu)]
        exact hu
      have hsat : Sat w V G.owns V' (renC (idxM 0 (upFrom 0 nk ++ ek)) G') w' (fun i => (mapOb (idxM 0 (upFrom 0 nk ++ ek)) os)[i]?) := by
        have h1 := hr'.sat.ren hk (fun k k' b hkk hb => by
          obtain ⟨s, e, hb'⟩ := hb
          rw [hlow k (hdom k s e)] at hkk
          cases hkk
          exact ⟨s, e, hb'⟩)
        have e : (fun i => (mapOb (idxM 0 (upFrom 0 nk ++ ek)) os)[i]?) = renM (idxM 0 (upFrom 0 nk ++ ek)) st'.ob := by
          funext i
          unfold renM
          rw [mapOb_get, getObs_get ho, idx_get, if_pos (Nat.zero_le _), Nat.sub_zero]
          cases (upFrom 0 nk ++ ek)[i]? <;> rfl
        rw [e]
        exact h1
      have hle : G.le (renC (idxM 0 (upFrom 0 nk ++ ek)) G') := by
        intro k s e
        rw [renC_spec hk k k (hlow k (hdom k s e))]
        exact hr'.ini k s e
      obtain ⟨vs', hrun, hrl0⟩ := res_all hr' hres hmr
      have hrl := hrl0.ren (renC_spec hk)
      have post : a'.defers = [] ∧ ∃ v, (results fn a'.tmps).run P w' = .ok v w' ∧ (fun e w' => ∃ V' G' v res obs', R res obs' ∧ e = Ending.returned v ∧ RepRes V' G' res v ∧ G.le G' ∧ Sat w V G.owns V' G' w' (fun k => obs'[k]?)) (.returned v) w' := by
        refine ⟨hr'.defers, _, run_results hrun, V', _, _, _, _, hR, rfl, ?_, hle, hsat⟩
        match rs, vs', hrl with
        | [], vs', hrl =>
          simp only [renL, RepL] at hrl
          subst hrl
          exact ⟨[], rfl, by simp [renL, RepL]⟩
        | [x], vs', hrl =>
          simp only [renL, RepL] at hrl
          obtain ⟨v, r, rfl, hx, rfl⟩ := hrl
          exact hx
        | x :: y :: r, vs', hrl =>
          have hl := hrl.length
          match vs', hl with
          | [], hl => simp [renL] at hl
          | [v], hl => simp [renL] at hl
          | v :: u :: t, hl => exact ⟨_, rfl, hrl⟩
      cases ae with
      | exit id => exact hq.elim
      | normal => exact post
      | ret => exact post
    · cases hbody
  · cases hok
end
end Go.AM
