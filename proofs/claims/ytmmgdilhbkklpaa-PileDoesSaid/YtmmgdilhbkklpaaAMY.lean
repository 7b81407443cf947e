/- The abstract machine's code, and that it is the program's. -/
import Derived.Test.YtmmgdilhbkklpaaAMX
import Derived.Scope
namespace Go.AM
open Go
set_option linter.unusedVariables false
set_option linter.unusedSimpArgs false
inductive TItem where
  | it (i : Item)
  | call (d : Option Nat) (c : Cal) (args : List Arg) (pass new : List Nat)
inductive Pse where
  | mv (rs : List Nat) (m : List (Nat × Nat))
  | frz (k : Nat)
inductive ACode where
  | skip
  | lbl (l : Nat)
  | ops (l : List TItem)
  | draw (prec : List (List Nat)) (is : List Item)
  | pre (p : Pse) (x : ACode)
  | post (x : ACode) (p : Pse)
  | alt (x y : ACode)
  | seq (a b : ACode)
  | cond (c : Arg) (t e : ACode)
  | block (id : Nat) (b : ACode)
  | loop (b : ACode)
  | exit (id : Nat)
  | ret
  | scope (b : ACode)
inductive AEx where
  | normal
  | exit (id : Nat)
  | ret
def AEx.ex : AEx → Exit
  | .normal => .normal
  | .exit id => .exit id
  | .ret => .ret
def AEx.then (n : St → Prop) (Q : AEx → St → Prop) : AEx → St → Prop
  | .normal, st => n st
  | e, st => Q e st
def AEx.blk (id : Nat) (Q : AEx → St → Prop) : AEx → St → Prop
  | .exit j, st => bif Nat.beq j id then Q .normal st else Q (.exit j) st
  | e, st => Q e st
def atext (P : Program) : List TItem → St → (St → Prop) → Prop
  | [], st, K => K st
  | .it i :: r, st, K => aitems P [i] [] st fun _ st' => atext P r st' K
  | .call d c args pass new :: r, st, K => acall P d c args pass new st fun st' => atext P r st' K
def apse (p : Pse) (st : St) (K : St → Prop) : Prop :=
  match p with
  | .mv rs m => K (st.mv rs m)
  | .frz k => ∃ ob, st.ob k = some ob ∧ frzOk ob = true ∧ K (st.frz k ob)
def awp (P : Program) : ACode → St → (AEx → St → Prop) → Prop
  | .skip, st, Q => Q .normal st
  | .lbl _, st, Q => Q .normal st
  | .ops l, st, Q => atext P l st (Q .normal)
  | .draw prec is, st, Q => aitems P is [] st fun A st' => accsOk prec A.reverse = true ∧ Q .normal st'
  | .pre p x, st, Q => apse p st fun st' => awp P x st' Q
  | .post x p, st, Q => awp P x st (AEx.then (fun st' => apse p st' (Q .normal)) Q)
  | .alt x y, st, Q => awp P x st Q ∨ awp P y st Q
  | .seq a b, st, Q => awp P a st (AEx.then (fun st' => awp P b st' Q) Q)
  | .cond c t e, st, Q => ∃ x : Option Bool, st.ev c = (match x with | some b => .bool b | none => .anyb) ∧ (x ≠ some false → awp P t st Q) ∧ (x ≠ some true → awp P e st Q)
  | .block id b, st, Q => awp P b st (AEx.blk id Q)
  | .loop b, st, Q => ∃ (I : St → Prop) (m : St → Nat), I st ∧ ∀ st', I st' → awp P b st' (AEx.then (fun s => I s ∧ m s < m st') Q)
  | .exit id, st, Q => Q (.exit id) st
  | .ret, st, Q => Q .ret st
  | .scope b, st, Q => awp P b st Q
/-! When it is the program's. -/
def okPse (nk : Nat) : Pse → Bool
  | .mv _ m => keysOk m && (List.range nk).all (fun k => decide (optA m k = some k)) && m.all fun p => decide (p.1 < nk → p.2 = p.1)
  | .frz k => decide (nk ≤ k)
def okTs (P : Program) (N : Nat) (ops : Array Oper) : List Oper → List TItem → Bool
  | [], [] => true
  | [], _ :: _ => false
  | os, [] => os.isEmpty
  | o :: os, .it i :: r => okGs P N ops ((o :: os).take (flat [i]).length) (flat [i]) && grpOk [i] && okTs P N ops ((o :: os).drop (flat [i]).length) r
  | o :: os, .call d c args pass new :: r => o.guard.isNone && decide (o.dst = d) && (match d with | some d => decide (d < N) | none => true) &&
      okCall P c args o.op &&
      keysOk (idxM 0 (pass ++ new)) && keysOk (idxM 0 pass) && okTs P N ops os r
def okc (P : Program) (N nk : Nat) : Code → ACode → Bool
  | c, .pre p x => okPse nk p && okc P N nk c x
  | c, .post x p => okPse nk p && okc P N nk c x
  | c, .alt x y => okc P N nk c x && okc P N nk c y
  | .skip, .skip => true
  | .label _, .lbl _ => true
  | .region _ ops false, .ops l => okTs P N ops ops.toList l
  | .region _ ops true, .draw prec is => okGs P N ops ops.toList (flat is) && grpOk is && precOk ops prec && pairsOk regClash prec 0 [] (flat is) && P.follows .mixedOrders
  | .seq a b, .seq x y => okc P N nk a x && okc P N nk b y
  | .cond c t e, .cond c' x y => okA c' c && okc P N nk t x && okc P N nk e y
  | .block i b, .block j x => Nat.beq i j && okc P N nk b x
  | .loop b, .loop x => okc P N nk b x
  | .exit i, .exit j => Nat.beq i j
  | .ret, .ret => true
  | .scope b, .scope x => okc P N nk b x
  | _, _ => false
section
variable {W0 : World} {V0 : View} {Own : Fra} {P : Program} {N nk : Nat} {ops : Array Oper} {Q : Exit → Act → World → Prop} {w : World} {V : View} {G : Ctx} {st : St} {a : Act}
theorem tops_sound : ∀ {l : List TItem} {st : St} {a : Act} {w : World} {V : View} {G : Ctx} {k : Nat} {K : St → Prop}, okTs P N ops (ops.toList.drop k) l = true → atext P l st K → Rel W0 V0 Own N st a w V G →
    (∀ st' a' w' V' G', K st' → Rel W0 V0 Own N st' a' w' V' G' → Q .normal a' w') → wpOps P ops Q (List.range' k (ops.size - k)) a w
  | [], st, a, w, V, G, k, K, hok, h, hr, hQ => by
    have hnil : ops.toList.drop k = [] := by
      cases hd : ops.toList.drop k with
      | nil => rfl
      | cons o os => rw [hd] at hok; simp [okTs] at hok
    have : ops.size - k = 0 := by
      have := congrArg List.length hnil
      simpa using this
    rw [this]
    exact hQ st a w V G h hr
  | .it i :: r, st, a, w, V, G, k, K, hok, h, hr, hQ => by
    cases hd : ops.toList.drop k with
    | nil => rw [hd] at hok; simp [okTs] at hok
    | cons o os =>
      rw [hd] at hok
      simp only [okTs, Bool.and_eq_true] at hok
      rw [← hd] at hok
      obtain ⟨⟨h1, h2⟩, h3⟩ := hok
      obtain ⟨rs, st', t1, t2, t3⟩ := aitems_trace h (Same.refl st) h2
      have hl : (flat [i]).length ≤ ops.size - k := by
        have := okGs_len h1
        have h2 : ops.toList.length = ops.size := Array.length_toList
        rw [List.length_take, List.length_drop, h2] at this
        omega
      have he : List.range' k (ops.size - k) = List.range' k (flat [i]).length ++ List.range' (k + (flat [i]).length) (ops.size - (k + (flat [i]).length)) := by
        rw [List.range'_append_1]
        congr 1
        omega
      rw [he]
      refine text_sound h1 t1 hr fun a' w' V' G' hr' => ?_
      exact tops_sound (l := r) (by rw [← List.drop_drop]; exact h3) t3 (hr'.same t2) hQ
  | .call d c args pass new :: r, st, a, w, V, G, k, K, hok, h, hr, hQ => by
    cases hd : ops.toList.drop k with
    | nil => rw [hd] at hok; simp [okTs] at hok
    | cons o os =>
      rw [hd] at hok
      simp only [okTs, Bool.and_eq_true, decide_eq_true_eq] at hok
      obtain ⟨⟨⟨⟨⟨⟨h1, h2⟩, h3⟩, h4⟩, h5⟩, h6⟩, h7⟩ := hok
      have hi : ops[k]? = some o := by
        have := congrArg (·[0]?) hd
        simpa using this
      have hk : k < ops.size := by
        rcases Nat.lt_or_ge k ops.size with h' | h'
        · exact h'
        · simp [Array.getElem?_eq_none h'] at hi
      have hdr : ops.toList.drop (k + 1) = os := by
        have := congrArg (List.drop 1) hd
        rwa [List.drop_drop] at this
      have he : List.range' k (ops.size - k) = k :: List.range' (k + 1) (ops.size - (k + 1)) := by
        rw [show ops.size - k = (ops.size - (k + 1)) + 1 by omega, List.range'_succ]
      rw [he, wpOps_cons]
      unfold wpOp
      rw [hi]
      have hg : o.guard = none := by cases hx : o.guard <;> simp [hx] at h1 ⊢
      simp only [Region.wanted, hg, if_true]
      left
      refine call_sound h2 (fun j hj => by rw [hj] at h3; exact of_decide_eq_true h3) h4 h5 h6 h hr _ fun st' a' w' V' G' hK hr' => ?_
      exact tops_sound (l := r) (k := k + 1) (by rw [hdr]; exact h7) hK hr' hQ
theorem Rel.drew (h : Rel W0 V0 Own N st a w V G) : Rel W0 V0 Own N st a w.drew V G := ⟨h.sat.drew, h.regs, h.size, h.defers, h.ini⟩
theorem pse_sound {p : Pse} {K : St → Prop} (hok : okPse nk p = true) (hkey : ∀ k b, Own.key k b → k < nk) (hctx : ∀ k s, Own.ctx k = some s → k < nk) (h : apse p st K) (hr : Rel W0 V0 Own N st a w V G) :
    ∃ st' V' G', K st' ∧ Rel W0 V0 Own N st' a w V' G' := by
  cases p with
  | mv rs m =>
    simp only [okPse, Bool.and_eq_true, List.all_eq_true, decide_eq_true_eq] at hok
    obtain ⟨⟨h1, h2⟩, h3⟩ := hok
    refine ⟨_, V, _, h, rel_mv h1 (fun k k' b hk hb => ?_) (fun k s hs => h2 k (List.mem_range.2 (hctx k s hs))) hr⟩
    have := h3 (k, k') (optA_mem hk) (hkey k b hb)
    simp only at this
    rw [this]
    exact hb
  | frz k =>
    simp only [okPse, decide_eq_true_eq] at hok
    obtain ⟨ob, h1, h2, h3⟩ := h
    obtain ⟨V', G', hV, hr'⟩ := rel_frz h1 h2 (fun b hb => by have := hkey k b hb; omega) (by
      cases hx : Own.ctx k with
      | none => rfl
      | some s => have := hctx k s hx; omega) hr
    exact ⟨_, V', G', h3, hr'⟩
theorem wp_loopI {c : Code} {Q : Exit → Act → World → Prop} (I : Nat → Act → World → Prop) {n : Nat} {a : Act} {w : World} (h₀ : I n a w)
    (round : ∀ n a w, I n a w → c.wp P (Exit.then (fun a' w' => ∃ m, m < n ∧ I m a' w') Q) a w) : (Code.loop c).wp P Q a w := by
  intro b k cs
  have key : ∀ n a w, I n a w → ∃ e a' w', Q e a' w' ∧ Arrives P (lone (b.at a (.code c :: .inLoop c :: k)) cs w) b k cs e a' w' := by
    intro n
    induction n using Nat.strongRecOn with
    | _ n ih =>
      intro a w hI
      obtain ⟨e, a₁, w₁, hq, harr⟩ := round n a w hI b (.inLoop c :: k) cs
      cases e with
      | normal =>
        obtain ⟨m, hlt, hI₁⟩ := hq
        obtain ⟨e₂, a₂, w₂, hq₂, harr₂⟩ := ih m hlt a₁ w₁ hI₁
        exact ⟨e₂, a₂, w₂, hq₂, .of_steps (Steps.trans harr (.one step_inLoop)) harr₂⟩
      | exit id => exact ⟨_, a₁, w₁, hq, .pass (x := .inLoop c) rfl (fun _ _ => .inl (by simp)) harr⟩
      | goto l => exact ⟨_, a₁, w₁, hq, .pass (x := .inLoop c) rfl (fun _ _ => .inl (by simp)) harr⟩
      | ret => exact ⟨_, a₁, w₁, hq, .pass (x := .inLoop c) rfl (fun _ _ => .inl (by simp)) harr⟩
      | panic ch => exact ⟨_, a₁, w₁, hq, .pass (x := .inLoop c) rfl (fun _ _ => .inl (by simp)) harr⟩
      | outgrown => exact ⟨_, a₁, w₁, hq, .pass (x := .inLoop c) rfl (fun _ _ => .inl (by simp)) harr⟩
  obtain ⟨e, a', w', hq, harr⟩ := key n a w h₀
  exact ⟨e, a', w', hq, .of_steps (.one step_loop) harr⟩
theorem code_sound (hkey : ∀ k b, Own.key k b → k < nk) (hctx : ∀ k s, Own.ctx k = some s → k < nk) : ∀ {x : ACode} {c : Code} {st : St} {a : Act} {w : World} {V : View} {G : Ctx} {QA : AEx → St → Prop} {Q : Exit → Act → World → Prop},
    okc P N nk c x = true → awp P x st QA → Rel W0 V0 Own N st a w V G → (∀ ae st' a' w' V' G', QA ae st' → Rel W0 V0 Own N st' a' w' V' G' → Q ae.ex a' w') → c.wp P Q a w := by
  intro x
  induction x with
  | pre p x ih =>
    intro c st a w V G QA Q hok h hr hQ
    have hok : okPse nk p = true ∧ okc P N nk c x = true := by cases c <;> simpa [okc] using hok
    obtain ⟨st', V', G', h', hr'⟩ := pse_sound hok.1 hkey hctx h hr
    exact ih hok.2 h' hr' hQ
  | post x p ih =>
    intro c st a w V G QA Q hok h hr hQ
    have hok : okPse nk p = true ∧ okc P N nk c x = true := by cases c <;> simpa [okc] using hok
    refine ih hok.2 h hr fun ae st' a' w' V' G' hq hr' => ?_
    cases ae with
    | normal =>
      obtain ⟨st2, V2, G2, h2, hr2⟩ := pse_sound hok.1 hkey hctx hq hr'
      exact hQ _ _ _ _ _ _ h2 hr2
    | exit id => exact hQ _ _ _ _ _ _ hq hr'
    | ret => exact hQ _ _ _ _ _ _ hq hr'
  | alt x y ihx ihy =>
    intro c st a w V G QA Q hok h hr hQ
    have hok : okc P N nk c x = true ∧ okc P N nk c y = true := by cases c <;> simpa [okc] using hok
    rcases h with h | h
    · exact ihx hok.1 h hr hQ
    · exact ihy hok.2 h hr hQ
  | skip =>
    intro c st a w V G QA Q hok h hr hQ
    cases c <;> try (simp [okc] at hok; done)
    exact wp_skip (hQ .normal _ _ _ _ _ h hr)
  | lbl l =>
    intro c st a w V G QA Q hok h hr hQ
    cases c <;> try (simp [okc] at hok; done)
    exact wp_label (hQ .normal _ _ _ _ _ h hr)
  | exit id =>
    intro c st a w V G QA Q hok h hr hQ
    cases c <;> try (simp [okc] at hok; done)
    simp only [okc] at hok
    rw [Nat.eq_of_beq_eq_true hok]
    exact wp_exit (hQ (.exit id) _ _ _ _ _ h hr)
  | ret =>
    intro c st a w V G QA Q hok h hr hQ
    cases c <;> try (simp [okc] at hok; done)
    exact wp_ret (hQ .ret _ _ _ _ _ h hr)
  | ops l =>
    intro c st a w V G QA Q hok h hr hQ
    cases c <;> try (simp [okc] at hok; done)
    rename_i id os dr
    cases dr with
    | true => simp [okc] at hok
    | false =>
      simp only [okc] at hok
      refine wp_region ?_
      have := tops_sound (P := P) (ops := os) (k := 0) (Q := Q) (by rw [List.drop_zero]; exact hok) h hr fun st' a' w' V' G' hq hr' => hQ .normal st' a' w' V' G' hq hr'
      rw [List.range_eq_range']
      exact this
  | draw prec is =>
    intro c st a w V G QA Q hok h hr hQ
    cases c <;> try (simp [okc] at hok; done)
    rename_i id os dr
    cases dr with
    | false => simp [okc] at hok
    | true =>
      simp only [okc, Bool.and_eq_true] at hok
      obtain ⟨⟨⟨⟨h1, h2⟩, h3⟩, h4⟩, h5⟩ := hok
      obtain ⟨rs, st', t1, t2, t3, t4⟩ := aitems_trace h (Same.refl st) h2
      refine wp_region_any h5 ?_
      have hacc : accsOk prec (rs.map (·.acc)) = true := by
        have : (accsOf rs []).reverse = rs.map (·.acc) := by simp [accsOf]
        rw [← this]
        exact t3
      have hfalse : ∀ i, isL (Array.replicate os.size false) i = false := by
        intro i
        unfold isL
        simp only [Array.getD_eq_getD_getElem?]
        by_cases hi : i < os.size
        · simp [hi]
        · simp [hi]
      have hfold : ∀ n, foldN (flat is) rs st (isL (Array.replicate os.size false)) n = st := by
        intro n
        induction n with
        | zero => rfl
        | succ n ih => simp only [foldN, hfalse, Bool.false_eq_true, if_false]; exact ih
      refine drawn_sound h1 t1 h3 h4 hacc (fun a' w' V' G' hr' => hQ .normal _ _ _ _ _ t4 (hr'.same t2)) os.size _ a _ V G (by simp) (fun i o hi => by rw [hfalse] at hi; cases hi) ?_ ?_
      · have := List.countP_le_length (p := fun i => !isL (Array.replicate os.size false) i) (l := List.range os.size)
        simpa using this
      · rw [hfold]
        exact hr.drew
  | seq x y ihx ihy =>
    intro c st a w V G QA Q hok h hr hQ
    cases c <;> try (simp [okc] at hok; done)
    simp only [okc, Bool.and_eq_true] at hok
    refine wp_seq (ihx hok.1 h hr fun ae st' a' w' V' G' hq hr' => ?_)
    cases ae with
    | normal => exact ihy hok.2 hq hr' hQ
    | exit id => exact hQ _ _ _ _ _ _ hq hr'
    | ret => exact hQ _ _ _ _ _ _ hq hr'
  | cond c' x y ihx ihy =>
    intro c st a w V G QA Q hok h hr hQ
    cases c <;> try (simp [okc] at hok; done)
    simp only [okc, Bool.and_eq_true] at hok
    obtain ⟨b, hb, ht, he⟩ := h
    have hc := okA_rep hr.regs hok.1.1
    rw [hb] at hc
    cases b with
    | some b => exact wp_cond_split (rep_bool hc) (fun e => ihx hok.1.2 (ht (by rw [e]; simp)) hr hQ) (fun e => ihy hok.2 (he (by rw [e]; simp)) hr hQ)
    | none =>
      simp only [Rep, RepP] at hc
      obtain ⟨b, hc⟩ := hc
      exact wp_cond_split hc (fun _ => ihx hok.1.2 (ht (by simp)) hr hQ) (fun _ => ihy hok.2 (he (by simp)) hr hQ)
  | block id x ih =>
    intro c st a w V G QA Q hok h hr hQ
    cases c <;> try (simp [okc] at hok; done)
    simp only [okc, Bool.and_eq_true] at hok
    rw [Nat.eq_of_beq_eq_true hok.1]
    refine wp_block (ih hok.2 h hr fun ae st' a' w' V' G' hq hr' => ?_)
    cases ae with
    | normal => exact hQ .normal _ _ _ _ _ hq hr'
    | exit j =>
      simp only [AEx.blk] at hq
      simp only [AEx.ex, Exit.inBlock]
      by_cases hj : j = id
      · rw [if_pos hj]
        rw [hj, Nat.beq_refl] at hq
        exact hQ .normal _ _ _ _ _ hq hr'
      · rw [if_neg hj]
        rw [beq_ne hj] at hq
        exact hQ (.exit j) _ _ _ _ _ hq hr'
    | ret => exact hQ .ret _ _ _ _ _ hq hr'
  | loop x ih =>
    intro c st a w V G QA Q hok h hr hQ
    cases c <;> try (simp [okc] at hok; done)
    simp only [okc] at hok
    obtain ⟨I, m, h0, hround⟩ := h
    refine wp_loopI (fun n a w => ∃ st V G, I st ∧ m st = n ∧ Rel W0 V0 Own N st a w V G) (n := m st) ⟨st, V, G, h0, rfl, hr⟩ ?_
    rintro n a w ⟨st, V, G, hI, rfl, hr⟩
    refine ih hok (hround st hI) hr fun ae st' a' w' V' G' hq hr' => ?_
    cases ae with
    | normal => exact ⟨m st', hq.2, st', V', G', hq.1, rfl, hr'⟩
    | exit id => exact hQ _ _ _ _ _ _ hq hr'
    | ret => exact hQ _ _ _ _ _ _ hq hr'
  | scope x ih =>
    intro c st a w V G QA Q hok h hr hQ
    cases c <;> try (simp [okc] at hok; done)
    simp only [okc] at hok
    refine wp_scope_straight (ih hok h hr fun ae st' a' w' V' G' hq hr' => ?_)
    cases ae with
    | normal => exact hQ .normal _ _ _ _ _ hq hr'
    | exit id => exact hQ (.exit id) _ _ _ _ _ hq hr'
    | ret => exact hQ .ret _ _ _ _ _ hq hr'
end
end Go.AM
