/- The abstract machine's code, worked out head first. -/
import Derived.Test.YtmmgdilhbkklpaaANA
namespace Go.AM
open Go
set_option linter.unusedVariables false
set_option linter.unusedSimpArgs false
def kGrd (x : AV) (K : Bool → Prop) (N : Prop) : Prop := match x with | .bool b => K b | .tup [] => N | _ => False
def bseq (P : Program) : List AOp → List Acc → St → (List Acc → St → Prop) → Prop
  | [], A, st, K => K A st
  | o :: l, A, st, K => kop P o st.ev st.ob fun v u acc => bseq P l (acc :: A) ((st.puts u).setO o.dst v) K
def bitems (P : Program) : List Item → List Acc → St → (List Acc → St → Prop) → Prop
  | [], A, st, K => K A st
  | .one o :: r, A, st, K => kop P o st.ev st.ob fun v u acc => bitems P r (acc :: A) ((st.puts u).setO o.dst v) K
  | .grp j want os :: r, A, st, K => @VL _ (st.reg j) ⟨fun x => kGrd x (fun b => @IfL (b == want) ⟨bseq P os A (st.set j (.bool want)) fun A st => bitems P r A st K⟩ ⟨bitems P r (skipA os A) (killD (st.set j (.bool (!want))) os) K⟩) (@VL _ (st.set j (.tup [])) ⟨fun st => bitems P r (skipA os A) (killD st os) K⟩)⟩
def bcall (P : Program) (d : Option Nat) (c : Cal) (args : List Arg) (pass new : List Nat) (st : St) (K : St → Prop) : Prop :=
  kCal P st.ev c fun f pre caps => @VL2 _ _ (renL (idxM 0 pass) (pre ++ args.map st.ev ++ caps)) (getObs st pass) ⟨fun xs os => kSome os fun obs => @VL _ (mapOb (idxM 0 pass) obs) ⟨fun obs => @VL _ (allNone st new) ⟨fun t => @CkL (t = true) ⟨@CallO P f xs obs ⟨fun res obs' => obs'.length = pass.length + new.length ∧ K ((putAll st (pass ++ new) (mapOb (invL (idxM 0 (pass ++ new))) obs')).setO d (ren (invL (idxM 0 (pass ++ new))) (resA res)))⟩⟩⟩⟩⟩
def btext (P : Program) : List TItem → St → (St → Prop) → Prop
  | [], st, K => K st
  | .it i :: r, st, K => bitems P [i] [] st fun _ st' => btext P r st' K
  | .call d c args pass new :: r, st, K => bcall P d c args pass new st fun st' => btext P r st' K
def bpse (p : Pse) (st : St) (K : St → Prop) : Prop :=
  match p with
  | .mv rs m => @VL _ (st.mv rs m) ⟨K⟩
  | .frz k => @VL _ (st.ob k) ⟨fun o => kSome o fun ob => @CkL (frzOk ob = true) ⟨@VL _ (st.frz k ob) ⟨K⟩⟩⟩
class BxA where c : ACode
def AltL [t : BxT] [e : BxE] : Prop := t.p ∨ e.p
def LoopL (P : Program) (st : St) [b : BxA] [Q : BxQ] : Prop := awp P (.loop b.c) st Q.q
def bwp (P : Program) : ACode → St → (AEx → St → Prop) → Prop
  | .skip, st, Q => Q .normal st
  | .lbl _, st, Q => Q .normal st
  | .ops l, st, Q => btext P l st (Q .normal)
  | .draw prec is, st, Q => bitems P is [] st fun A st' => @AccL prec A.reverse ⟨Q .normal st'⟩
  | .pre p x, st, Q => bpse p st fun st' => bwp P x st' Q
  | .post x p, st, Q => bwp P x st (AEx.then (fun st' => bpse p st' (Q .normal)) Q)
  | .alt x y, st, Q => @AltL ⟨bwp P x st Q⟩ ⟨bwp P y st Q⟩
  | .seq a b, st, Q => bwp P a st (AEx.then (fun st' => bwp P b st' Q) Q)
  | .cond c t e, st, Q => @VL _ (st.ev c) ⟨fun x => kCnd x fun b => @IfL b ⟨bwp P t st Q⟩ ⟨bwp P e st Q⟩⟩
  | .block id b, st, Q => bwp P b st (AEx.blk id Q)
  | .loop b, st, Q => @LoopL P st ⟨b⟩ ⟨Q⟩
  | .exit id, st, Q => Q (.exit id) st
  | .ret, st, Q => Q .ret st
  | .scope b, st, Q => bwp P b st Q
section
variable {P : Program}
theorem aopA_mono {o : AOp} {st : St} {K K' : St → Acc → Prop} (h : aopA P o st K) (hk : ∀ s a, K s a → K' s a) : aopA P o st K' := by
  obtain ⟨v, u, acc, h1, h2⟩ := h
  exact ⟨v, u, acc, h1, hk _ _ h2⟩
theorem aseq_mono : ∀ {l : List AOp} {A : List Acc} {st : St} {K K' : List Acc → St → Prop}, aseq P l A st K → (∀ A s, K A s → K' A s) → aseq P l A st K'
  | [], A, st, K, K', h, hk => hk _ _ h
  | o :: l, A, st, K, K', h, hk => aopA_mono h fun s a h => aseq_mono h hk
theorem aitems_mono : ∀ {l : List Item} {A : List Acc} {st : St} {K K' : List Acc → St → Prop}, aitems P l A st K → (∀ A s, K A s → K' A s) → aitems P l A st K'
  | [], A, st, K, K', h, hk => hk _ _ h
  | .one o :: l, A, st, K, K', h, hk => aopA_mono h fun s a h => aitems_mono h hk
  | .grp j want os :: l, A, st, K, K', h, hk => by
    obtain ⟨b, x, h0, h1, h2, h3⟩ := h
    exact ⟨b, x, h0, h1, fun e => aseq_mono (h2 e) fun A s h => aitems_mono h hk, fun e => aitems_mono (h3 e) hk⟩
theorem acall_mono {d : Option Nat} {c : Cal} {args : List Arg} {pass new : List Nat} {st : St} {K K' : St → Prop} (h : acall P d c args pass new st K) (hk : ∀ s, K s → K' s) : acall P d c args pass new st K' := by
  obtain ⟨f, caps, obs, R, h1, h0, h2, h3, h4, h5⟩ := h
  exact ⟨f, caps, obs, R, h1, h0, h2, h3, h4, fun res obs' hr => ⟨(h5 res obs' hr).1, hk _ (h5 res obs' hr).2⟩⟩
theorem atext_mono : ∀ {l : List TItem} {st : St} {K K' : St → Prop}, atext P l st K → (∀ s, K s → K' s) → atext P l st K'
  | [], st, K, K', h, hk => hk _ h
  | .it i :: r, st, K, K', h, hk => aitems_mono (l := [i]) h fun A s h => atext_mono h hk
  | .call d c args pass new :: r, st, K, K', h, hk => acall_mono h fun s h => atext_mono h hk
theorem apse_mono {p : Pse} {st : St} {K K' : St → Prop} (h : apse p st K) (hk : ∀ s, K s → K' s) : apse p st K' := by
  cases p with
  | mv rs m => exact hk _ h
  | frz k =>
    obtain ⟨ob, h1, h2, h3⟩ := h
    exact ⟨ob, h1, h2, hk _ h3⟩
theorem awp_mono : ∀ {x : ACode} {st : St} {Q Q' : AEx → St → Prop}, awp P x st Q → (∀ e s, Q e s → Q' e s) → awp P x st Q' := by
  intro x
  induction x with
  | skip => intro st Q Q' h hk; exact hk _ _ h
  | lbl l => intro st Q Q' h hk; exact hk _ _ h
  | ops l => intro st Q Q' h hk; exact atext_mono h (hk _)
  | draw prec is => intro st Q Q' h hk; exact aitems_mono h fun A s h => ⟨h.1, hk _ _ h.2⟩
  | pre p x ih => intro st Q Q' h hk; exact apse_mono h fun s h => ih h hk
  | alt x y ihx ihy => intro st Q Q' h hk; exact h.imp (fun h => ihx h hk) (fun h => ihy h hk)
  | post x p ih =>
    intro st Q Q' h hk
    refine ih h fun e s h => ?_
    cases e with
    | normal => exact apse_mono h (hk _)
    | exit id => exact hk _ _ h
    | ret => exact hk _ _ h
  | seq a b iha ihb =>
    intro st Q Q' h hk
    refine iha h fun e s h => ?_
    cases e with
    | normal => exact ihb h hk
    | exit id => exact hk _ _ h
    | ret => exact hk _ _ h
  | cond c t e iht ihe =>
    intro st Q Q' h hk
    obtain ⟨b, hb, h1, h2⟩ := h
    exact ⟨b, hb, fun e => iht (h1 e) hk, fun e => ihe (h2 e) hk⟩
  | block id b ih =>
    intro st Q Q' h hk
    refine ih h fun e s h => ?_
    cases e with
    | normal => exact hk _ _ h
    | exit j =>
      simp only [AEx.blk] at h ⊢
      cases hb : Nat.beq j id <;> rw [hb] at h
      · exact hk _ _ h
      · exact hk _ _ h
    | ret => exact hk _ _ h
  | loop b ih =>
    intro st Q Q' h hk
    obtain ⟨I, m, h0, h1⟩ := h
    refine ⟨I, m, h0, fun s hs => ih (h1 s hs) fun e s h => ?_⟩
    cases e with
    | normal => exact h
    | exit id => exact hk _ _ h
    | ret => exact hk _ _ h
  | exit id => intro st Q Q' h hk; exact hk _ _ h
  | ret => intro st Q Q' h hk; exact hk _ _ h
  | scope b ih => intro st Q Q' h hk; exact ih h hk
theorem kop_a {o : AOp} {st : St} {K : KO} {K' : St → Acc → Prop} (h : kop P o st.ev st.ob K) (hk : ∀ v u acc, K v u acc → K' ((st.puts u).setO o.dst v) acc) : aopA P o st K' := by
  obtain ⟨v, u, acc, h1, h2⟩ := kop_sound h
  exact ⟨v, u, acc, h1, hk _ _ _ h2⟩
theorem bseq_a : ∀ {l : List AOp} {A : List Acc} {st : St} {K : List Acc → St → Prop}, bseq P l A st K → aseq P l A st K
  | [], A, st, K, h => h
  | o :: l, A, st, K, h => kop_a h fun v u acc h => bseq_a h
theorem bitems_a : ∀ {l : List Item} {A : List Acc} {st : St} {K : List Acc → St → Prop}, bitems P l A st K → aitems P l A st K
  | [], A, st, K, h => h
  | .one o :: l, A, st, K, h => kop_a h fun v u acc h => bitems_a h
  | .grp j want os :: l, A, st, K, h => by
    simp only [bitems, VL] at h
    cases hx : st.reg j <;> rw [hx] at h <;> simp only [kGrd] at h
    case bool b =>
      obtain ⟨h2, h3⟩ := h
      refine ⟨b, .bool b, .inl rfl, hx, fun e => ?_, fun e => ?_⟩
      · subst e
        exact aseq_mono (bseq_a (h2 (by simp))) fun A s h => bitems_a h
      · subst e
        exact bitems_a (h3 (by cases want <;> rfl))
    case tup xs =>
      cases xs with
      | nil =>
        refine ⟨!want, .tup [], .inr ⟨rfl, rfl⟩, hx, fun e => ?_, fun e => ?_⟩
        · cases want <;> cases e
        · exact bitems_a h
      | cons _ _ => exact h.elim
theorem bcall_a {d : Option Nat} {c : Cal} {args : List Arg} {pass new : List Nat} {st : St} {K : St → Prop} (h : bcall P d c args pass new st K) : acall P d c args pass new st K := by
  simp only [bcall] at h
  obtain ⟨f, pre, caps, h1, hco, hv, h⟩ := kCal_iff h
  simp only [VL2, VL, kSome_iff, CkL, CallO] at h
  rw [← hv] at h
  obtain ⟨obs, h2, h3, R, h4, h5⟩ := h
  exact ⟨f, caps, obs, R, h1, hco, h2, h3, h4, h5⟩
theorem btext_a : ∀ {l : List TItem} {st : St} {K : St → Prop}, btext P l st K → atext P l st K
  | [], st, K, h => h
  | .it i :: r, st, K, h => aitems_mono (l := [i]) (bitems_a h) fun A s h => btext_a h
  | .call d c args pass new :: r, st, K, h => acall_mono (bcall_a h) fun s h => btext_a h
theorem bpse_a {p : Pse} {st : St} {K : St → Prop} (h : bpse p st K) : apse p st K := by
  cases p with
  | mv rs m => exact h
  | frz k =>
    simp only [bpse, VL, kSome_iff, CkL] at h
    obtain ⟨ob, h1, h2, h3⟩ := h
    exact ⟨ob, h1, h2, h3⟩
theorem bwp_a : ∀ {x : ACode} {st : St} {Q : AEx → St → Prop}, bwp P x st Q → awp P x st Q := by
  intro x
  induction x with
  | skip => intro st Q h; exact h
  | lbl l => intro st Q h; exact h
  | ops l => intro st Q h; exact btext_a h
  | draw prec is => intro st Q h; exact aitems_mono (bitems_a h) fun A s h => h
  | pre p x ih => intro st Q h; exact apse_mono (bpse_a h) fun s h => ih h
  | alt x y ihx ihy => intro st Q h; exact Or.imp (fun h => ihx h) (fun h => ihy h) h
  | post x p ih =>
    intro st Q h
    have h : bwp P x st (AEx.then (fun st' => bpse p st' (Q .normal)) Q) := h
    have g := ih h
    show awp P x st (AEx.then (fun st' => apse p st' (Q .normal)) Q)
    refine awp_mono g fun e s h => ?_
    cases e with
    | normal => exact bpse_a h
    | exit id => exact h
    | ret => exact h
  | seq a b iha ihb =>
    intro st Q h
    have h : bwp P a st (AEx.then (fun st' => bwp P b st' Q) Q) := h
    have g := iha h
    show awp P a st (AEx.then (fun st' => awp P b st' Q) Q)
    refine awp_mono g fun e s h => ?_
    cases e with
    | normal => exact ihb h
    | exit id => exact h
    | ret => exact h
  | cond c t e iht ihe =>
    intro st Q h
    simp only [bwp, VL] at h
    unfold kCnd at h
    split at h
    · rename_i b hb
      exact ⟨some b, hb, fun e => iht (h.1 (by cases b <;> simp at e ⊢)), fun e => ihe (h.2 (by cases b <;> simp at e ⊢))⟩
    · rename_i hb
      exact ⟨none, hb, fun _ => iht (h.1.1 rfl), fun _ => ihe (h.2.2 rfl)⟩
    · exact h.elim
  | block id b ih => intro st Q h; exact ih h
  | loop b ih => intro st Q h; exact h
  | exit id => intro st Q h; exact h
  | ret => intro st Q h; exact h
  | scope b ih => intro st Q h; exact ih h
/-- A loop, at whose head the state is of one form. -/
theorem loopL {σ : Type} {rs : List Nat} {mm : List (Nat × Nat)} {x : ACode} {st : St} {Q : AEx → St → Prop} (S : σ → St) (J : σ → Prop) (m : σ → Nat) (s0 : σ) (hst : st.mv rs mm = S s0) (h0 : J s0)
    (h : ∀ s, J s → bwp P x (S s) (AEx.then (fun st' => ∃ s', st'.mv rs mm = S s' ∧ J s' ∧ m s' < m s) Q)) : @LoopL P st ⟨.pre (.mv rs mm) x⟩ ⟨Q⟩ := by
  classical
  let I : St → Prop := fun st => ∃ s, st.mv rs mm = S s ∧ J s
  let M : St → Nat → Prop := fun st n => ∃ s, st.mv rs mm = S s ∧ J s ∧ m s = n
  have least : ∀ st, I st → ∃ n, M st n ∧ ∀ k, M st k → n ≤ k := by
    intro st hI
    obtain ⟨s, e, j⟩ := hI
    have : ∀ n, (∃ k, k ≤ n ∧ M st k) → ∃ n, M st n ∧ ∀ k, M st k → n ≤ k := by
      intro n
      induction n with
      | zero =>
        rintro ⟨k, hk, hm⟩
        have : k = 0 := by omega
        subst this
        exact ⟨0, hm, fun _ _ => Nat.zero_le _⟩
      | succ n ih =>
        rintro ⟨k, hk, hm⟩
        by_cases hex : ∃ k, k ≤ n ∧ M st k
        · exact ih hex
        · refine ⟨k, hm, fun k' hm' => ?_⟩
          have : ¬ k' ≤ n := fun hle => hex ⟨k', hle, hm'⟩
          omega
    exact this (m s) ⟨m s, Nat.le_refl _, s, e, j, rfl⟩
  let mu : St → Nat := fun st => if hI : I st then (least st hI).choose else 0
  show awp P (.loop (.pre (.mv rs mm) x)) st Q
  refine ⟨I, mu, ⟨s0, hst, h0⟩, fun st' hI => ?_⟩
  have hmu : mu st' = (least st' hI).choose := by simp only [mu]; rw [dif_pos hI]
  obtain ⟨⟨s, e, j, hs⟩, hmin⟩ := (least st' hI).choose_spec
  have := bwp_a (h s j)
  refine awp_mono (show awp P (.pre (.mv rs mm) x) st' _ from by show awp P x (st'.mv rs mm) _; rw [e]; exact this) fun ae st2 h => ?_
  cases ae with
  | normal =>
    obtain ⟨s', e', j', hlt⟩ := h
    have hI' : I st2 := ⟨s', e', j'⟩
    refine ⟨hI', ?_⟩
    have h2 : mu st2 = (least st2 hI').choose := by simp only [mu]; rw [dif_pos hI']
    have h3 := (least st2 hI').choose_spec.2 (m s') ⟨s', e', j', rfl⟩
    rw [h2, hmu, ← hs]
    omega
  | exit id => exact h
  | ret => exact h
theorem ctr_b {f N nk : Nat} {x : ACode} {ri : List RV} {ek : List Nat} {args : List AV} {obs : List Ob} {R : List AV → List Ob → Prop} (hok : okFun P f N nk x ri ek = true) (hobs : obs.length = nk) (hargs : args.length ≤ N)
    (h : bwp P x ⟨initL 0 args, initL 0 obs⟩ (afin nk ri ek R)) : Ctr P f args obs R := ctr_of hok hobs hargs (bwp_a h)
end
end Go.AM
