/- Calls that hand objects on. -/
import Derived.Test.YtmmgdilhbkklpaaAMW
namespace Go.AM
open Go
set_option linter.unusedVariables false
set_option linter.unusedSimpArgs false
def getObs (st : St) : List Nat → Option (List Ob)
  | [] => some []
  | k :: r => match st.ob k with
    | some o => (getObs st r).map (o :: ·)
    | none => none
def putAll (st : St) : List Nat → List Ob → St
  | k :: ks, o :: os => putAll (st.put k o) ks os
  | _, _ => st
def allNone (st : St) : List Nat → Bool
  | [] => true
  | k :: r => (match st.ob k with | none => true | some _ => false) && allNone st r
/-- A call that hands objects on: those of pass, in that order; what comes back beside them gets the names of new. -/
def acall (P : Program) (d : Option Nat) (c : Cal) (args : List Arg) (pass new : List Nat) (st : St) (K : St → Prop) : Prop :=
  ∃ f caps obs R, callee st.ev c = some (f, caps) ∧ calOk P st.ev c ∧ getObs st pass = some obs ∧ allNone st new = true ∧
    Ctr P f (renL (idxM 0 pass) (calV st.ev c args ++ caps)) (mapOb (idxM 0 pass) obs) R ∧
    ∀ res obs', R res obs' → obs'.length = pass.length + new.length ∧ K ((putAll st (pass ++ new) (mapOb (invL (idxM 0 (pass ++ new))) obs')).setO d (ren (invL (idxM 0 (pass ++ new))) (resA res)))
section
variable {W0 : World} {V0 : View} {Own : Fra} {P : Program} {N : Nat} {o : Oper} {w w' : World} {V V' : View} {G G' : Ctx} {st : St} {a : Act} {μ : Nat → Option Ob} {Q : Exit → Act → World → Prop}
theorem getObs_get : ∀ {ks : List Nat} {obs : List Ob} {i : Nat}, getObs st ks = some obs → obs[i]? = (ks[i]?).bind st.ob
  | [], obs, i, h => by simp [getObs] at h; subst h; simp
  | k :: r, obs, i, h => by
    simp only [getObs] at h
    split at h
    · rename_i o ho
      obtain ⟨l, hl, rfl⟩ := Option.map_eq_some_iff.1 h
      cases i with
      | zero => simp [ho]
      | succ i => simpa using getObs_get (i := i) hl
    · cases h
theorem getObs_len : ∀ {ks : List Nat} {obs : List Ob}, getObs st ks = some obs → obs.length = ks.length
  | [], obs, h => by simp [getObs] at h; subst h; rfl
  | k :: r, obs, h => by
    simp only [getObs] at h
    split at h
    · obtain ⟨l, hl, rfl⟩ := Option.map_eq_some_iff.1 h
      simp [getObs_len hl]
    · cases h
theorem putAll_reg : ∀ {ks : List Nat} {os : List Ob} {st : St} {i : Nat}, (putAll st ks os).reg i = st.reg i
  | [], os, st, i => by simp [putAll]
  | k :: ks, [], st, i => by simp [putAll]
  | k :: ks, o :: os, st, i => by rw [putAll, putAll_reg]; rfl
theorem putAll_ob : ∀ {ks : List Nat} {os : List Ob} {st : St} {j : Nat}, ks.length = os.length → (∀ (i k : Nat), i < k → ∀ x y, ks[i]? = some x → ks[k]? = some y → x ≠ y) →
    (∀ i : Nat, ks[i]? = some j → (putAll st ks os).ob j = os[i]?) ∧ ((∀ i : Nat, ks[i]? ≠ some j) → (putAll st ks os).ob j = st.ob j)
  | [], os, st, j, h, _ => ⟨fun i hi => by simp at hi, fun _ => by simp [putAll]⟩
  | k :: ks, [], st, j, h, _ => by simp at h
  | k :: ks, o :: os, st, j, h, hu => by
    obtain ⟨h1, h2⟩ := putAll_ob (ks := ks) (os := os) (st := st.put k o) (j := j) (by simpa using h) fun i k' hik x y hx hy => hu (i + 1) (k' + 1) (by omega) x y (by simpa using hx) (by simpa using hy)
    refine ⟨fun i hi => ?_, fun hi => ?_⟩
    · cases i with
      | zero =>
        simp at hi
        subst hi
        rw [putAll, h2, St.ob_put, if_pos rfl]
        · rfl
        · intro i e
          exact hu 0 (i + 1) (by omega) k k rfl (by simpa using e) rfl
      | succ i =>
        rw [putAll, h1 i (by simpa using hi)]
        rfl
    · rw [putAll, h2 fun i e => hi (i + 1) (by simpa using e), St.ob_put, if_neg]
      intro e
      exact hi 0 (by simp [e])
theorem getObs_eq : ∀ {ks : List Nat}, getObs st ks = getObsM st.ob ks
  | [] => rfl
  | k :: r => by simp only [getObs, getObsM, getObs_eq (ks := r)]; rfl
theorem allNone_eq : ∀ {ks : List Nat}, allNone st ks = allNoneM st.ob ks
  | [] => rfl
  | k :: r => by simp only [allNone, allNoneM, allNone_eq (ks := r)]; rfl
theorem putAll_upd : ∀ {ks : List Nat} {os : List Ob} {st : St}, (putAll st ks os).ob = updO st.ob (zipU ks os)
  | [], os, st => by simp [putAll, zipU, updO]
  | k :: ks, [], st => by simp [putAll, zipU, updO]
  | k :: ks, o :: os, st => by
    rw [putAll, putAll_upd, zipU, updO]
    congr 1
    funext j
    exact St.ob_put st k j o
theorem call_sound {d : Option Nat} {c : Cal} {args : List Arg} {pass new : List Nat} {K : St → Prop} (hd : o.dst = d) (hN : ∀ j, d = some j → j < N)
    (hok : okCall P c args o.op = true) (hk : keysOk (idxM 0 (pass ++ new)) = true) (hp : keysOk (idxM 0 pass) = true) (h : acall P d c args pass new st K) (hr : Rel W0 V0 Own N st a w V G) (next : Act → World → Prop)
    (hn : ∀ st' a' w' V' G', K st' → Rel W0 V0 Own N st' a' w' V' G' → next a' w') : o.wp P a w next Q := by
  obtain ⟨f, caps, obs, R, hcal, hco, hobs, hfresh, hctr, hR⟩ := h
  obtain ⟨vs, hrun, hrep⟩ := run_call (w := w) (args := args) hok hctr.1 hcal hco (hr.args _)
  rw [getObs_eq] at hobs
  rw [allNone_eq] at hfresh
  unfold Oper.wp
  rw [hrun, Oper.upon_enter]
  refine (call_core hr.sat hk hp hobs hfresh hctr (fun r o h => (hR r o h).1) hrep).mono ?_
  rintro e w' ⟨V', G', val, res, obs', hres, rfl, hV, hG, hv, hs'⟩
  refine hn _ _ w' V' G' (hR res obs' hres).2 ⟨?_, fun i => ?_, ?_, ?_, Ctx.le_trans hr.ini hG⟩
  · rw [St.setO_ob, putAll_upd]
    exact hs'
  · rw [St.setO_reg, putAll_reg, hd, put_getD (fun j hj => by rw [hr.size]; exact hN j hj)]
    split
    · exact hv
    · exact (hr.regs i).mono hV hG
  · rw [hd]
    cases d with
    | none => exact hr.size
    | some j => simp [Act.put, hr.size]
  · rw [hd]
    cases d with
    | none => exact hr.defers
    | some j => exact hr.defers
end
end Go.AM
