/- The abstract machine's code, and that it is the program's. -/
import Derived.Test.YtgbmneoeggdaoaaGreatDoorXam3
import Derived.Scope
import Derived.RangeFuncLeaves
namespace Go.AM
open Go
set_option linter.unusedVariables false
set_option linter.unusedSimpArgs false
inductive TItem where
 | it (i : Item)
 | call (d : Option Nat) (c : Cal) (args : List Arg) (pass new : List Nat)
 | callg (d : Option Nat) (c : Cal) (args : List Arg)
abbrev TItem.o (x : AOp) : TItem := .it (.one x)
inductive Pse where
 | mv (rs : List Nat) (m : List (Nat × Nat))
 | frz (k : Nat)
 | nil (r k esz v : Nat)
 | nilb (k o key esz : Nat)
 | rar (k : Nat)
 | dyn (ks : List Nat)
 | dynB (b : Nat)
inductive ACode where
 | skip
 | lbl (l : Nat)
 | ops (l : List TItem)
 | draw (prec : List (List Nat)) (is : List Item)
 | pre (p : Pse) (x : ACode)
 | post (x : ACode) (p : Pse)
 | alt (x y : ACode)
 | seq (a b : ACode)
 | join (a b : ACode)
 | cond (c : Arg) (t e : ACode)
 | block (id : Nat) (b : ACode)
 | loop (b : ACode)
 | exit (id : Nat)
 | ret
 | scope (b : ACode)
 | rfunc (lk kp : List Nat) (g : Arg) (ps : List Nat) (asg body : ACode)
inductive AEx where
 | normal
 | exit (id : Nat)
 | ret
def AEx.ex : AEx → Exit
 | .normal => .normal
 | .exit id => .exit id
 | .ret => .ret
def AEx.then (n : St → Prop) (Q : AEx → St → Prop) : AEx → St → Prop
 | .normal, st => n st
 | e, st => Q e st
def AEx.blk (id : Nat) (Q : AEx → St → Prop) : AEx → St → Prop
 | .exit j, st => bif Nat.beq j id then Q .normal st else Q (.exit j) st
 | e, st => Q e st
/-- A function's contract, where it is called with all objects that there are, under their names. -/
def CtrG (P : Program) (f : Nat) (args : List AV) (objs : List (Nat × Ob)) (R : List AV → List (Nat × Ob) → Prop) : Prop :=
 okFn P f = true ∧ ∀ (V : View) (G : Ctx) (w : World) (vs : List Value), Sat w V G.owns V G w (optA objs) → RepL V G args vs →
  Calls P f vs.toArray w fun e w' => ∃ V' G' v res objs', R res objs' ∧ e = .returned v ∧ RepRes V' G' res v ∧ G.le G' ∧ Sat w V G.owns V' G' w' (optA objs')
def acallg (P : Program) (d : Option Nat) (c : Cal) (args : List Arg) (st : St) (K : St → Prop) : Prop :=
 ∃ f caps R, callee st.ev c = some (f, caps) ∧ calOk P st.ev c ∧ CtrG P f (calV st.ev c args ++ caps) st.objs R ∧ ∀ res objs', R res objs' → K ((St.mk st.regs objs').setO d (resA res))
def atext (P : Program) : List TItem → St → (St → Prop) → Prop
 | [], st, K => K st
 | .it i :: r, st, K => aitems P [i] [] st fun _ st' => atext P r st' K
 | .call d c args pass new :: r, st, K => acall P d c args pass new st fun st' => atext P r st' K
 | .callg d c args :: r, st, K => acallg P d c args st fun st' => atext P r st' K
/-- What may be forgotten, or written no more: of any objects but those of ks. -/
inductive Stp (ks : List Nat) (a : St) : St → Prop where
 | refl : Stp ks a a
 | same {b c : St} : Stp ks a b → Same b c → Stp ks a c
 | drop {b c : St} : Stp ks a b → (∀ i, c.reg i = b.reg i ∨ c.reg i = .dead) → (∀ k, c.ob k = b.ob k) → Stp ks a c
 | frz {b : St} (k : Nat) {ob : Ob} : Stp ks a b → b.ob k = some ob → frzOk ob = true → k ∉ ks → Stp ks a (b.frz k ob)
/-- What may be forgotten, written no more, or called another name: of any objects but those whose name is below b. -/
inductive StpB (b : Nat) (a : St) : St → Prop where
 | refl : StpB b a a
 | same {x y : St} : StpB b a x → Same x y → StpB b a y
 | drop {x y : St} : StpB b a x → (∀ i, y.reg i = x.reg i ∨ y.reg i = .dead) → (∀ k, y.ob k = x.ob k) → StpB b a y
 | mv {x : St} (rs : List Nat) (m : List (Nat × Nat)) : StpB b a x → keysOk m = true → (∀ k, k < b → (x.ob k).isSome → optA m k = some k) → (∀ k k', optA m k = some k' → k < b → k' = k) → StpB b a (x.mv rs m)
 | frz {x : St} (k : Nat) {ob : Ob} : StpB b a x → x.ob k = some ob → frzOk ob = true → b ≤ k → StpB b a (x.frz k ob)
theorem Stp.trans {ks : List Nat} {a b c : St} (h : Stp ks a b) (k : Stp ks b c) : Stp ks a c := by
 induction k with
 | refl => exact h
 | same _ hs ih => exact ih.same hs
 | drop _ h1 h2 ih => exact ih.drop h1 h2
 | frz k _ h1 h2 h3 ih => exact ih.frz k h1 h2 h3
def apse (p : Pse) (st : St) (K : St → Prop) : Prop :=
 match p with
 | .mv rs m => K (st.mv rs m)
 | .frz k => ∃ ob, st.ob k = some ob ∧ frzOk ob = true ∧ K (st.frz k ob)
 | .nil r k esz v => (st.reg r = .yl 0 ∧ st.ob k = none) ∧ K ((st.put k (.arr v esz [])).set r (.hs k v 0 0))
 | .nilb k o key esz => ∃ cs, st.ob k = some (.box cs) ∧ (cs[o]? = some (.yl 0) ∧ st.ob key = none) ∧ K ((st.put key (.arr 0 esz [])).put k (.box (cs.set o (.hs key 0 0 0))))
 | .rar k => ∃ v, st.ob k = some (.arr v 1 []) ∧ K (st.put k (.rarr v []))
 | .dyn ks => ∃ st', Stp ks st st' ∧ K st'
 | .dynB b => ∃ st', StpB b st st' ∧ K st'
def setL (st : St) : List Nat → List AV → St
 | p :: ps, x :: xs => setL (st.set p x) ps xs
 | _, _ => st
def objsLt (kp : List Nat) : List (Nat × Ob) → Bool
 | [] => true
 | (k, _) :: r => (kp.any fun j => Nat.beq j k) && objsLt kp r
/-- What a function value hands on to a yield, whatever is done there: the values xs, in that order. -/
def IterA (P : Program) (f : Nat) (caps : List AV) (xs : List (List AV)) : Prop :=
 okFn P f = true ∧ ∀ (V : View) (cvs : List Value), RepPL V caps cvs → ∃ vals : List (Array Value), vals.length = xs.length ∧ (∀ (k : Nat) x v, xs[k]? = some x → vals[k]? = some v → RepPL V x v.toList) ∧ SeqOk P f cvs V vals
/-- The same of a function that is bound to its first arguments. -/
def IterB (P : Program) (f : Nat) (pre caps : List AV) (xs : List (List AV)) : Prop :=
 okFn P f = true ∧ ∀ (V : View) (pvs cvs : List Value), Glob V → RepPL V pre pvs → RepPL V caps cvs → ∃ vals : List (Array Value), vals.length = xs.length ∧ (∀ (k : Nat) x v, xs[k]? = some x → vals[k]? = some v → RepPL V x v.toList) ∧ SeqOk2 P f pvs cvs V vals
def IterM (P : Program) (f : Nat) (pre : List AV) (xs : List (List AV)) : Prop := IterB P f pre [] xs
theorem IterA.b {P : Program} {f : Nat} {caps : List AV} {xs : List (List AV)} (h : IterA P f caps xs) : IterB P f [] caps xs := ⟨h.1, fun V pvs cvs _ hp hc => by
 simp only [RepPL] at hp
 subst hp
 obtain ⟨vals, h1, h2, h3⟩ := h.2 V cvs hc
 exact ⟨vals, h1, h2, h3.two⟩⟩
/-- Lent while a range runs: objects that no round touches, and what the iterator sees of them. -/
def showM (lk : List Nat) (μ : Nat → Option Ob) : Nat → Option Ob := fun k => bif memK lk k then μ k else none
def lendV (lk : List Nat) (μ : Nat → Option Ob) (x : AV) : AV := match lk with | [] => x | _ :: _ => bor (showM lk μ) x
def hideV (lk : List Nat) (x : AV) : AV := match keyX x with | some k => bif memK lk k then .dead else x | none => bif isP x then x else .dead
def hideR (lk : List Nat) (r : List (Nat × AV)) : List (Nat × AV) := match lk with | [] => r | _ :: _ => mapA (hideV lk) r
def hideOb (lk : List Nat) : Ob → Ob
 | .box cs => .box (cs.map (hideV lk))
 | .pbox cs => .pbox cs
 | .arr v e xs => .arr v e xs
 | .rarr v cs => .rarr v (cs.map (hideV lk))
def hideL (lk : List Nat) : List (Nat × Ob) → List (Nat × Ob)
 | [] => []
 | (k, o) :: r => bif memK lk k then hideL lk r else (k, hideOb lk o) :: hideL lk r
def hideO (lk : List Nat) (os : List (Nat × Ob)) : List (Nat × Ob) := match lk with | [] => os | _ :: _ => hideL lk os
def showL (lk : List Nat) : List (Nat × Ob) → List (Nat × Ob)
 | [] => []
 | (k, o) :: r => bif memK lk k then (k, o) :: showL lk r else showL lk r
def backO (lk : List Nat) (old os : List (Nat × Ob)) : List (Nat × Ob) := match lk with | [] => os | _ :: _ => showL lk old ++ os
def noneO (lk : List Nat) (os : List (Nat × Ob)) : Bool := lk.all fun k => (optA os k).isNone
def awp (P : Program) : ACode → St → (AEx → St → Prop) → Prop
 | .skip, st, Q => Q .normal st
 | .lbl _, st, Q => Q .normal st
 | .ops l, st, Q => atext P l st (Q .normal)
 | .draw prec is, st, Q => aitems P is [] st fun A st' => accsOk prec A.reverse = true ∧ Q .normal st'
 | .pre p x, st, Q => apse p st fun st' => awp P x st' Q
 | .post x p, st, Q => awp P x st (AEx.then (fun st' => apse p st' (Q .normal)) Q)
 | .alt x y, st, Q => awp P x st Q ∨ awp P y st Q
 | .seq a b, st, Q => awp P a st (AEx.then (fun st' => awp P b st' Q) Q)
 | .join a b, st, Q => awp P a st (AEx.then (fun st' => awp P b st' Q) Q)
 | .cond c t e, st, Q => ∃ x : Option Bool, st.ev c = (match x with | some b => .bool b | none => .anyb) ∧ (x ≠ some false → awp P t st Q) ∧ (x ≠ some true → awp P e st Q)
 | .block id b, st, Q => awp P b st (AEx.blk id Q)
 | .loop b, st, Q => ∃ (I : St → Prop) (m : St → Nat), I st ∧ ∀ st', I st' → awp P b st' (AEx.then (fun s => I s ∧ m s < m st') Q)
 | .exit id, st, Q => Q (.exit id) st
 | .ret, st, Q => Q .ret st
 | .scope b, st, Q => awp P b st Q
 | .rfunc lk kp g ps asg body, st, Q => ∃ (f : Nat) (pre caps : List AV) (xs : List (List AV)) (I : Nat → List (Nat × Ob) → Prop), ((lendV lk st.ob (st.ev g) = .fn f caps ∧ isPL caps = true ∧ pre = []) ∨ (lendV lk st.ob (st.ev g) = .mfn f pre ∧ isPL pre = true ∧ caps = [])) ∧ IterB P f pre caps xs ∧ (lk = [] ∨ ∀ x ∈ xs, x.all scal1 = true) ∧
   (∀ x ∈ xs, x.length = ps.length) ∧ I 0 (hideO lk st.objs) ∧ (∀ k os, I k os → objsLt kp os = true ∧ noneO lk os = true) ∧
   (∀ k x os, xs[k]? = some x → I k os → awp P asg (setL ⟨hideR lk st.regs, os⟩ ps x) fun e st1 => e = .normal ∧ objsLt kp st1.objs = true ∧ awp P body st1 (AEx.then (fun st2 => I (k + 1) st2.objs) fun e st2 => objsLt kp st2.objs = true ∧ noneO lk st2.objs = true ∧ Q e ⟨st.regs, backO lk st.objs st2.objs⟩)) ∧
   (∀ os, I xs.length os → Q .normal ⟨st.regs, backO lk st.objs os⟩)
/-! When it is the program's. -/
def memN (ks : List Nat) (k : Nat) : Bool := ks.any fun j => Nat.beq j k
theorem memN_iff {ks : List Nat} {k : Nat} : memN ks k = true ↔ k ∈ ks := by
 unfold memN
 rw [List.any_eq_true]
 exact ⟨fun ⟨j, h, e⟩ => Nat.eq_of_beq_eq_true e ▸ h, fun h => ⟨k, h, Nat.beq_refl k⟩⟩
def okPse (ks : List Nat) : Pse → Bool
 | .mv _ m => keysOk m && ks.all (fun k => decide (optA m k = some k)) && m.all fun p => !memN ks p.1 || decide (p.2 = p.1)
 | .frz k => !memN ks k
 | .nil _ _ _ _ => true
 | .nilb _ _ _ _ => true
 | .rar _ => true
 | .dyn ks' => ks.all (memN ks')
 | .dynB b => ks.all fun k => decide (k < b)
def okTs (P : Program) (N : Nat) (ops : Array Oper) : List Oper → List TItem → Bool
 | [], [] => true
 | [], _ :: _ => false
 | os, [] => os.isEmpty
 | o :: os, .it i :: r => okGs P N ops ((o :: os).take (flat [i]).length) (flat [i]) && grpOk [i] && okTs P N ops ((o :: os).drop (flat [i]).length) r
 | o :: os, .call d c args pass new :: r => o.guard.isNone && decide (o.dst = d) && (match d with | some d => decide (d < N) | none => true) &&
   okCall P c args o.op &&
   keysOk (idxM 0 (pass ++ new)) && keysOk (idxM 0 pass) && okTs P N ops os r
 | o :: os, .callg d c args :: r => o.guard.isNone && decide (o.dst = d) && (match d with | some d => decide (d < N) | none => true) &&
   okCall P c args o.op && okTs P N ops os r
def okc (P : Program) (N : Nat) (nk : List Nat) (top : Bool) : Code → ACode → Bool
 | c, .pre p x => okPse nk p && okc P N nk top c x
 | c, .post x p => okPse nk p && okc P N nk top c x
 | c, .alt x y => okc P N nk top c x && okc P N nk top c y
 | .skip, .skip => true
 | .label _, .lbl _ => true
 | .region _ ops false, .ops l => noDef ops && okTs P N ops ops.toList l
 | .region _ ops true, .draw prec is => noDef ops && okGs P N ops ops.toList (flat is) && grpOk is && precOk ops prec && pairsOk regClash prec 0 [] (flat is) && P.follows .mixedOrders
 | .seq a b, .seq x y => okc P N nk top a x && okc P N nk top b y
 | .seq a b, .join x y => okc P N nk top a x && okc P N nk top b y
 | .cond c t e, .cond c' x y => okA c' c && okc P N nk top t x && okc P N nk top e y
 | .block i b, .block j x => Nat.beq i j && okc P N nk top b x
 | .loop b, .loop x => okc P N nk top b x
 | .exit i, .exit j => Nat.beq i j
 | .ret, .ret => true
 | .scope b, .scope x => okc P N nk top b x
 | .rangeFunc g qs a b, .rfunc lk kp h ps x y => top && lk.all (memN nk) && decide (kp = nk) && okA h g && decide (qs.toList = ps) && ps.all (fun p => decide (p < N)) && okc P N nk false a x && okc P N nk false b y
 | _, _ => false
section
variable {W0 : World} {V0 : View} {Own : Fra} {P : Program} {N : Nat} {nk : List Nat} {ops : Array Oper} {Q : Exit → Act → World → Prop} {w : World} {V : View} {G : Ctx} {st : St} {a : Act}
theorem callg_sound {o : Oper} {d : Option Nat} {c : Cal} {args : List Arg} {K : St → Prop} {Q : Exit → Act → World → Prop} (hd : o.dst = d) (hN : ∀ j, d = some j → j < N)
  (hok : okCall P c args o.op = true) (h : acallg P d c args st K) (hr : Rel W0 V0 Own N st a w V G) (next : Act → World → Prop)
  (hn : ∀ st' a' w' V' G', K st' → Rel W0 V0 Own N st' a' w' V' G' → next a' w') : o.wp P a w next Q := by
 obtain ⟨f, caps, R, hcal, hco, hctr, hR⟩ := h
 obtain ⟨vs, hrun, hrep⟩ := run_call (w := w) (args := args) hok hctr.1 hcal hco (hr.args _)
 unfold Oper.wp
 rw [hrun, Oper.upon_enter]
 refine (hctr.2 V G w vs hr.sat.rebase hrep).mono ?_
 rintro e w' ⟨V', G', val, res, objs', hres, rfl, hv, hG, hs'⟩
 have hV := hs'.vle
 refine hn _ _ w' V' G' (hR res objs' hres) ⟨?_, fun i => ?_, ?_, ?_, Ctx.le_trans hr.ini hG⟩
 ·rw [St.setO_ob]
  exact hr.sat.trans hs'
 ·rw [St.setO_reg, hd, put_getD (fun j hj => by rw [hr.size]; exact hN j hj)]
  split
  ·exact hv.rep
  ·exact (hr.regs i).mono hV hG
 ·rw [hd]
  cases d with
  | none => exact hr.size
  | some j => simp [Act.put, hr.size]
 ·rw [hd]
  cases d with
  | none => exact hr.defers
  | some j => exact hr.defers
theorem tops_sound : ∀ {l : List TItem} {st : St} {a : Act} {w : World} {V : View} {G : Ctx} {k : Nat} {K : St → Prop}, okTs P N ops (ops.toList.drop k) l = true → atext P l st K → Rel W0 V0 Own N st a w V G →
  (∀ st' a' w' V' G', K st' → Rel W0 V0 Own N st' a' w' V' G' → Q .normal a' w') → wpOps P ops Q (List.range' k (ops.size - k)) a w
 | [], st, a, w, V, G, k, K, hok, h, hr, hQ => by
  have hnil : ops.toList.drop k = [] := by
   cases hd : ops.toList.drop k with
   | nil => rfl
   | cons o os => rw [hd] at hok; simp [okTs] at hok
  have : ops.size - k = 0 := by
   have := congrArg List.length hnil
   simpa using this
  rw [this]
  exact hQ st a w V G h hr
 | .it i :: r, st, a, w, V, G, k, K, hok, h, hr, hQ => by
  cases hd : ops.toList.drop k with
  | nil => rw [hd] at hok; simp [okTs] at hok
  | cons o os =>
   rw [hd] at hok
   simp only [okTs, Bool.and_eq_true] at hok
   rw [← hd] at hok
   obtain ⟨⟨h1, h2⟩, h3⟩ := hok
   obtain ⟨rs, st', t1, t2, t3⟩ := aitems_trace h (Same.refl st) h2
   have hl : (flat [i]).length ≤ ops.size - k := by
    have := okGs_len h1
    have h2 : ops.toList.length = ops.size := Array.length_toList
    rw [List.length_take, List.length_drop, h2] at this
    omega
   have he : List.range' k (ops.size - k) = List.range' k (flat [i]).length ++ List.range' (k + (flat [i]).length) (ops.size - (k + (flat [i]).length)) := by
    rw [List.range'_append_1]
    congr 1
    omega
   rw [he]
   refine text_sound h1 t1 hr fun a' w' V' G' hr' => ?_
   exact tops_sound (l := r) (by rw [← List.drop_drop]; exact h3) t3 (hr'.same t2) hQ
 | .call d c args pass new :: r, st, a, w, V, G, k, K, hok, h, hr, hQ => by
  cases hd : ops.toList.drop k with
  | nil => rw [hd] at hok; simp [okTs] at hok
  | cons o os =>
   rw [hd] at hok
   simp only [okTs, Bool.and_eq_true, decide_eq_true_eq] at hok
   obtain ⟨⟨⟨⟨⟨⟨h1, h2⟩, h3⟩, h4⟩, h5⟩, h6⟩, h7⟩ := hok
   have hi : ops[k]? = some o := by
    have := congrArg (·[0]?) hd
    simpa using this
   have hk : k < ops.size := by
    rcases Nat.lt_or_ge k ops.size with h' | h'
    ·exact h'
    ·simp [Array.getElem?_eq_none h'] at hi
   have hdr : ops.toList.drop (k + 1) = os := by
    have := congrArg (List.drop 1) hd
    rwa [List.drop_drop] at this
   have he : List.range' k (ops.size - k) = k :: List.range' (k + 1) (ops.size - (k + 1)) := by
    rw [show ops.size - k = (ops.size - (k + 1)) + 1 by omega, List.range'_succ]
   rw [he, wpOps_cons]
   unfold wpOp
   rw [hi]
   have hg : o.guard = none := by cases hx : o.guard <;> simp [hx] at h1 ⊢
   simp only [Region.wanted, hg, if_true]
   left
   refine call_sound h2 (fun j hj => by rw [hj] at h3; exact of_decide_eq_true h3) h4 h5 h6 h hr _ fun st' a' w' V' G' hK hr' => ?_
   exact tops_sound (l := r) (k := k + 1) (by rw [hdr]; exact h7) hK hr' hQ
 | .callg d c args :: r, st, a, w, V, G, k, K, hok, h, hr, hQ => by
  cases hd : ops.toList.drop k with
  | nil => rw [hd] at hok; simp [okTs] at hok
  | cons o os =>
   rw [hd] at hok
   simp only [okTs, Bool.and_eq_true, decide_eq_true_eq] at hok
   obtain ⟨⟨⟨⟨h1, h2⟩, h3⟩, h4⟩, h7⟩ := hok
   have hi : ops[k]? = some o := by
    have := congrArg (·[0]?) hd
    simpa using this
   have hk : k < ops.size := by
    rcases Nat.lt_or_ge k ops.size with h' | h'
    ·exact h'
    ·simp [Array.getElem?_eq_none h'] at hi
   have hdr : ops.toList.drop (k + 1) = os := by
    have := congrArg (List.drop 1) hd
    rwa [List.drop_drop] at this
   have he : List.range' k (ops.size - k) = k :: List.range' (k + 1) (ops.size - (k + 1)) := by
    rw [show ops.size - k = (ops.size - (k + 1)) + 1 by omega, List.range'_succ]
   rw [he, wpOps_cons]
   unfold wpOp
   rw [hi]
   have hg : o.guard = none := by cases hx : o.guard <;> simp [hx] at h1 ⊢
   simp only [Region.wanted, hg, if_true]
   left
   refine callg_sound h2 (fun j hj => by rw [hj] at h3; exact of_decide_eq_true h3) h4 h hr _ fun st' a' w' V' G' hK hr' => ?_
   exact tops_sound (l := r) (k := k + 1) (by rw [hdr]; exact h7) hK hr' hQ
theorem Rel.drew (h : Rel W0 V0 Own N st a w V G) : Rel W0 V0 Own N st a w.drew V G := ⟨h.sat.drew, h.regs, h.size, h.defers, h.ini⟩
theorem pse_sound {p : Pse} {K : St → Prop} (hok : okPse nk p = true) (hkey : ∀ k b, Own.key k b → k ∈ nk) (hctx : ∀ k s, Own.ctx k = some s → k ∈ nk) (h : apse p st K) (hr : Rel W0 V0 Own N st a w V G) :
  ∃ st' V' G', K st' ∧ Rel W0 V0 Own N st' a w V' G' := by
 cases p with
 | mv rs m =>
  simp only [okPse, Bool.and_eq_true, List.all_eq_true, decide_eq_true_eq] at hok
  obtain ⟨⟨h1, h2⟩, h3⟩ := hok
  refine ⟨_, V, _, h, rel_mv h1 (fun k k' b hk hb => ?_) (fun k s hs => h2 k (hctx k s hs)) hr⟩
  have := h3 (k, k') (optA_mem hk)
  simp only [memN_iff.2 (hkey k b hb), Bool.not_true, Bool.false_or, decide_eq_true_eq] at this
  rw [this]
  exact hb
 | frz k =>
  simp only [okPse] at hok
  have hno : k ∉ nk := fun e => by rw [memN_iff.2 e] at hok; cases hok
  obtain ⟨ob, h1, h2, h3⟩ := h
  obtain ⟨V', G', hV, hr'⟩ := rel_frz h1 h2 (fun b hb => hno (hkey k b hb)) (by
   cases hx : Own.ctx k with
   | none => rfl
   | some s => exact absurd (hctx k s hx) hno) hr
  exact ⟨_, V', G', h3, hr'⟩
 | dyn ks =>
  simp only [okPse, List.all_eq_true] at hok
  obtain ⟨st', h1, h2⟩ := h
  suffices hh : ∃ V' G', Rel W0 V0 Own N st' a w V' G' by
   obtain ⟨V', G', hr'⟩ := hh
   exact ⟨st', V', G', h2, hr'⟩
  clear h2
  induction h1 with
  | refl => exact ⟨V, G, hr⟩
  | same _ hs ih =>
   obtain ⟨V', G', hr'⟩ := ih
   exact ⟨V', G', hr'.same hs⟩
  | drop _ g1 g2 ih =>
   obtain ⟨V', G', hr'⟩ := ih
   refine ⟨V', G', ?_, fun i => ?_, hr'.size, hr'.defers, hr'.ini⟩
   ·rw [funext g2]
    exact hr'.sat
   ·rcases g1 i with e | e
    ·rw [e]; exact hr'.regs i
    ·rw [e]; simp only [Rep]
  | frz k _ g1 g2 g3 ih =>
   obtain ⟨V', G', hr'⟩ := ih
   have hno : k ∉ nk := fun e => g3 (memN_iff.1 (hok k e))
   obtain ⟨V2, G2, _, hr2⟩ := rel_frz g1 g2 (fun b hb => hno (hkey k b hb)) (by
    cases hx : Own.ctx k with
    | none => rfl
    | some s => exact absurd (hctx k s hx) hno) hr'
   exact ⟨V2, G2, hr2⟩
 | dynB b =>
  simp only [okPse, List.all_eq_true, decide_eq_true_eq] at hok
  obtain ⟨st', h1, h2⟩ := h
  suffices hh : ∃ V' G', Rel W0 V0 Own N st' a w V' G' by
   obtain ⟨V', G', hr'⟩ := hh
   exact ⟨st', V', G', h2, hr'⟩
  clear h2
  induction h1 with
  | refl => exact ⟨V, G, hr⟩
  | same _ hs ih =>
   obtain ⟨V', G', hr'⟩ := ih
   exact ⟨V', G', hr'.same hs⟩
  | drop _ g1 g2 ih =>
   obtain ⟨V', G', hr'⟩ := ih
   refine ⟨V', G', ?_, fun i => ?_, hr'.size, hr'.defers, hr'.ini⟩
   ·rw [funext g2]
    exact hr'.sat
   ·rcases g1 i with e | e
    ·rw [e]; exact hr'.regs i
    ·rw [e]; simp only [Rep]
  | mv rs m _ g1 g2 g3 ih =>
   obtain ⟨V', G', hr'⟩ := ih
   refine ⟨V', _, rel_mv g1 (fun k k' b hk hb => ?_) (fun k s hs => ?_) hr'⟩
   ·have hkn := hkey k b hb
    rw [g3 k k' hk (hok k hkn)]
    exact hb
   ·have hkn := hctx k s hs
    obtain ⟨s', e', _⟩ := hr'.ini k s hs
    obtain ⟨ob, e2⟩ := hr'.sat.dom k s' e'
    exact g2 k (hok k hkn) (by rw [e2]; rfl)
  | frz k _ g1 g2 g3 ih =>
   obtain ⟨V', G', hr'⟩ := ih
   have hno : k ∉ nk := fun e => by have := hok k e; omega
   obtain ⟨V2, G2, _, hr2⟩ := rel_frz g1 g2 (fun b hb => hno (hkey k b hb)) (by
    cases hx : Own.ctx k with
    | none => rfl
    | some s => exact absurd (hctx k s hx) hno) hr'
   exact ⟨V2, G2, hr2⟩
 | nil r k esz v =>
  obtain ⟨⟨h1, h2⟩, h3⟩ := h
  have hs' := hr.sat.newNone (s := .arr v esz 0 none) (ob := .arr v esz []) h2 rfl (by
   simp only [ObOk]
   exact ⟨trivial, trivial, rfl, fun _ => trivial, fun b o tot h => by cases h⟩)
  have hle := Ctx.le_new (s := .arr v esz 0 none) (hr.sat.fresh h2)
  refine ⟨_, V, _, h3, ⟨?_, fun i => ?_, hr.size, hr.defers, Ctx.le_trans hr.ini hle⟩⟩
  ·have e : ((st.put k (.arr v esz [])).set r (.hs k v 0 0)).ob = fun j => if j = k then some (.arr v esz []) else st.ob j := by
    funext j
    rw [St.ob_set, St.ob_put]
   rw [e]
   exact hs'
  ·rw [St.reg_set, St.reg_put]
   have hi := hr.regs i
   split
   ·rename_i e
    rw [e, h1] at hi
    simp only [Rep, RepP] at hi
    rw [e, hi]
    simp only [Rep]
    exact ⟨⟨_, _, rfl⟩, _, _, _, _, if_pos trivial, Nat.le_refl _, fun _ => hsOk_none _⟩
   ·exact hi.mono (View.le_refl _) hle
 | rar k =>
  obtain ⟨v, h1, h3⟩ := h
  obtain ⟨s, hs1, hs2⟩ := hr.sat.obs k _ h1
  have hnew : ObOk V G w s (.rarr v []) := by
   cases s with
   | box b => simp only [ObOk] at hs2
   | arr ver esz n loc =>
    simp only [ObOk] at hs2 ⊢
    obtain ⟨g1, g2, g3, g4, g5⟩ := hs2
    refine ⟨g1, g2, g3, fun _ => trivial, fun b o tot e => ?_⟩
    obtain ⟨us, T, q1, q2, q3, q4⟩ := g5 b o tot e
    have hn : n = 0 := by simpa using g3
    subst hn
    exact ⟨us, T, q1, q2, by omega, by simp [RepL], fun u hu => by simp at hu⟩
  refine ⟨_, V, G, h3, ⟨?_, fun i => ?_, hr.size, hr.defers, hr.ini⟩⟩
  ·have e : (st.put k (.rarr v [])).ob = fun j => if j = k then some (.rarr v []) else st.ob j := by
    funext j
    rw [St.ob_put]
   rw [e]
   refine ⟨hr.sat.keep, hr.sat.view, hr.sat.vle, hr.sat.vnew, fun j ob hj => ?_, fun j sj hj => ?_, hr.sat.priv, hr.sat.inj, hr.sat.loc, hr.sat.glob⟩
   ·by_cases hjk : j = k
    ·subst hjk
     simp only [if_true, Option.some.injEq] at hj
     subst hj
     exact ⟨s, hs1, hnew⟩
    ·simp only [if_neg hjk] at hj
     exact hr.sat.obs j ob hj
   ·by_cases hjk : j = k
    ·subst hjk; exact ⟨_, if_pos rfl⟩
    ·simp only [if_neg hjk]
     exact hr.sat.dom j sj hj
  ·rw [St.reg_put]
   exact hr.regs i
 | nilb k o key esz =>
  obtain ⟨cs, h1, ⟨h2, h4⟩, h3⟩ := h
  have hs' := hr.sat.newNone (s := .arr 0 esz 0 none) (ob := .arr 0 esz []) h4 rfl (by
   simp only [ObOk]
   exact ⟨trivial, trivial, rfl, fun _ => trivial, fun b o tot h => by cases h⟩)
  have hle := Ctx.le_new (s := .arr 0 esz 0 none) (hr.sat.fresh h4)
  have hne : k ≠ key := fun e => by rw [e, h4] at h1; cases h1
  have hk : (fun j => if j = key then some (Ob.arr 0 esz []) else st.ob j) k = some (.box cs) := by simp only; rw [if_neg hne]; exact h1
  obtain ⟨s, hs1, hs2⟩ := hs'.obs k _ hk
  have hnew : ObOk V (fun j => if j = key then some (Sh.arr 0 esz 0 none) else G j) w s (.box (cs.set o (.hs key 0 0 0))) := by
   cases s with
   | arr _ _ _ _ => simp only [ObOk] at hs2
   | box b =>
    simp only [ObOk] at hs2 ⊢
    obtain ⟨us, T, g1, g2, g3⟩ := hs2
    obtain ⟨u, e1, e2⟩ := g2.get h2
    refine ⟨us, T, g1, ?_, g3⟩
    have e3 : us.set o u = us := by
     apply List.ext_getElem?
     intro j
     by_cases hj : j = o
     ·subst hj
      have hl : j < us.length := (List.getElem?_eq_some_iff.1 e1).1
      rw [List.getElem?_set_self hl, e1]
     ·rw [List.getElem?_set_ne (Ne.symm hj)]
    have := g2.set o (y := .hs key 0 0 0) (u := u) (by
     simp only [Rep, RepP] at e2
     rw [e2]
     simp only [Rep]
     exact ⟨⟨_, _, rfl⟩, _, _, _, _, if_pos trivial, Nat.le_refl _, fun _ => hsOk_none _⟩)
    rwa [e3] at this
  refine ⟨_, V, _, h3, ⟨?_, fun i => ?_, hr.size, hr.defers, Ctx.le_trans hr.ini hle⟩⟩
  ·have e : ((st.put key (.arr 0 esz [])).put k (.box (cs.set o (.hs key 0 0 0)))).ob = fun j => if j = k then some (.box (cs.set o (.hs key 0 0 0))) else if j = key then some (.arr 0 esz []) else st.ob j := by
    funext j
    rw [St.ob_put, St.ob_put]
   rw [e]
   refine ⟨hs'.keep, hs'.view, hs'.vle, hs'.vnew, fun j ob hj => ?_, fun j sj hj => ?_, hs'.priv, hs'.inj, hs'.loc, hs'.glob⟩
   ·by_cases hjk : j = k
    ·subst hjk
     simp only [if_true, Option.some.injEq] at hj
     subst hj
     exact ⟨s, hs1, hnew⟩
    ·simp only [if_neg hjk] at hj
     exact hs'.obs j ob hj
   ·by_cases hjk : j = k
    ·subst hjk; exact ⟨_, if_pos rfl⟩
    ·simp only [if_neg hjk]
     exact hs'.dom j sj hj
  ·rw [St.reg_put, St.reg_put]
   exact (hr.regs i).mono (View.le_refl _) hle
/-- Where a function stands: what it began with, or what it began with after the last range over a function. -/
structure Env (B0 : Nat) (kp : List Nat) (r : Option Nat) (W0 : World) (Own : Fra) : Prop where
 key : ∀ k b, Own.key k b → k ∈ kp
 ctx : ∀ k s, Own.ctx k = some s → k ∈ kp
 low : B0 ≤ W0.heap.size
 dfs : r = none → ∀ d ∈ Own.dfs, ∃ D, d = { target := .collected D, args := #[] } ∧ B0 ≤ D ∧ D < W0.heap.size ∧ ¬ Own.own D ∧ W0.heap[D]? = some (.deferred (some []))
 dist : r = none → Own.dfs.Pairwise (· ≠ ·)
def Later (W0 : World) (V0 : View) (Own : Fra) (W1 : World) (V1 : View) (Own1 : Fra) : Prop := (∀ V G w μ, Sat W1 V1 Own1 V G w μ → Sat W0 V0 Own V G w μ) ∧ Own.ctx.le Own1.ctx
theorem Later.refl (W0 : World) (V0 : View) (Own : Fra) : Later W0 V0 Own W0 V0 Own := ⟨fun _ _ _ _ h => h, Ctx.le_refl _⟩
theorem Later.trans {W0 W1 W2 : World} {V0 V1 V2 : View} {O0 O1 O2 : Fra} (h : Later W0 V0 O0 W1 V1 O1) (k : Later W1 V1 O1 W2 V2 O2) : Later W0 V0 O0 W2 V2 O2 := ⟨fun V G w μ s => h.1 V G w μ (k.1 V G w μ s), Ctx.le_trans h.2 k.2⟩
theorem Sat.dfs {W0 : World} {V0 : View} {o : Nat → Prop} {ky : Nat → Nat → Prop} {c : Ctx} {d d' : List Deferred} {V : View} {G : Ctx} {w : World} {μ : Nat → Option Ob} (h : Sat W0 V0 ⟨o, ky, c, d⟩ V G w μ) : Sat W0 V0 ⟨o, ky, c, d'⟩ V G w μ :=
 ⟨⟨h.keep.os, h.keep.tape, h.keep.output, h.keep.size, h.keep.block⟩, h.view, h.vle, h.vnew, h.obs, h.dom, h.priv, h.inj, h.loc, h.glob⟩
theorem wpIn_scope {F : Fence} {n : Nat} {c : Code} {Q : Exit → Act → World → Prop} {a : Act} {w : World} (h : c.wpIn F n P (Exit.noGoto Q) a w) : (Code.scope c).wpIn F n P Q a w := by
 intro b k cs hro hb hr
 obtain ⟨e, a₁, w₁, hq, harr⟩ := h b (.inScope c :: k) cs hro hb hr
 have s1 : step P (lone (b.atR a (.code (.scope c) :: k)) cs w) = .next (lone (b.atR a (.code c :: .inScope c :: k)) cs w) := step_lone_go (by simp [stepG, stepG.exec, Frame.atR])
 have s2 : step P (lone (b.atR a₁ (.inScope c :: k)) cs w₁) = .next (lone (b.atR a₁ k) cs w₁) := step_lone_go (by simp [stepG, stepG.exec, Frame.atR])
 have h0 : (lone (b.atR a (.code (.scope c) :: k)) cs w).fenced P F := fenced_calm hb hr rfl
 cases e with
 | normal => exact ⟨.normal, a₁, w₁, hq, .head h0 s1 (StepsIn.trans harr (.one (fenced_calm hb hr rfl) s2))⟩
 | exit id =>
  refine ⟨.exit id, a₁, w₁, hq, .of_steps (.one h0 s1) ⟨fun k' hk => harr.1 k' (by simp [exitTo, hk]), fun hr hk => ?_⟩⟩
  exact harr.2 hr (by simp [exitTo, hk])
 | goto l => exact hq.elim
 | ret => exact ⟨.ret, a₁, w₁, hq, ArrivesIn.of_steps (k := k) (e := .ret) (.one h0 s1) harr⟩
 | panic ch => exact ⟨.panic ch, a₁, w₁, hq, ArrivesIn.of_steps (k := k) (e := .panic ch) (.one h0 s1) harr⟩
 | outgrown => exact ⟨.outgrown, a₁, w₁, hq, ArrivesIn.of_steps (k := k) (e := .outgrown) (.one h0 s1) harr⟩
theorem wpIn_loopI {F : Fence} {m : Nat} {c : Code} {Q : Exit → Act → World → Prop} (I : Nat → Act → World → Prop) {n : Nat} {a : Act} {w : World} (h₀ : I n a w)
  (round : ∀ n a w, I n a w → c.wpIn F m P (Exit.then (fun a' w' => ∃ m, m < n ∧ I m a' w') Q) a w) : (Code.loop c).wpIn F m P Q a w := by
 intro b k cs hro hb hr
 have key : ∀ n a w, I n a w → ∃ e a' w', Q e a' w' ∧ ArrivesIn (Machine.fenced P F) P (lone (b.atR a (.code c :: .inLoop c :: k)) cs w) b k cs e a' w' := by
  intro n
  induction n using Nat.strongRecOn with
  | _ n ih =>
   intro a w hI
   obtain ⟨e, a₁, w₁, hq, harr⟩ := round n a w hI b (.inLoop c :: k) cs hro hb hr
   cases e with
   | normal =>
    obtain ⟨m, hlt, hI₁⟩ := hq
    obtain ⟨e₂, a₂, w₂, hq₂, harr₂⟩ := ih m hlt a₁ w₁ hI₁
    exact ⟨e₂, a₂, w₂, hq₂, .of_steps (StepsIn.trans harr (.one (fenced_calm hb hr rfl) stepR_inLoop)) harr₂⟩
   | exit id => exact ⟨_, a₁, w₁, hq, .pass (x := .inLoop c) rfl (fun _ _ => .inl (by simp)) harr⟩
   | goto l => exact ⟨_, a₁, w₁, hq, .pass (x := .inLoop c) rfl (fun _ _ => .inl (by simp)) harr⟩
   | ret => exact ⟨_, a₁, w₁, hq, .pass (x := .inLoop c) rfl (fun _ _ => .inl (by simp)) harr⟩
   | panic ch => exact ⟨_, a₁, w₁, hq, .pass (x := .inLoop c) rfl (fun _ _ => .inl (by simp)) harr⟩
   | outgrown => exact ⟨_, a₁, w₁, hq, .pass (x := .inLoop c) rfl (fun _ _ => .inl (by simp)) harr⟩
 obtain ⟨e, a', w', hq, harr⟩ := key n a w h₀
 exact ⟨e, a', w', hq, .of_steps (.one (fenced_calm hb hr rfl) stepR_loop) harr⟩
theorem setL_ob : ∀ {ps : List Nat} {xs : List AV} {st : St}, (setL st ps xs).ob = st.ob ∧ (setL st ps xs).objs = st.objs
 | [], xs, st => by simp [setL]
 | p :: ps, [], st => by simp [setL]
 | p :: ps, x :: xs, st => by
  simp only [setL]
  obtain ⟨h1, h2⟩ := setL_ob (ps := ps) (xs := xs) (st := st.set p x)
  exact ⟨h1, h2⟩
theorem setL_rep {V : View} {G : Ctx} : ∀ {ps : List Nat} {xs : List AV} {vs : List Value} {st : St} {t : Array Value}, (∀ p ∈ ps, p < t.size) → RepPL V xs vs → (∀ i, Rep V G (st.reg i) (t.getD i undef)) →
  (∀ i, Rep V G ((setL st ps xs).reg i) (((ps.zip vs).foldl (fun t (p, v) => t.setIfInBounds p v) t).getD i undef)) ∧ ((ps.zip vs).foldl (fun t (p, v) => t.setIfInBounds p v) t).size = t.size
 | [], xs, vs, st, t, hp, hx, hr => by
  simp only [setL, List.zip_nil_left, List.foldl_nil]
  exact ⟨hr, trivial⟩
 | p :: ps, [], vs, st, t, hp, hx, hr => by
  simp only [RepPL] at hx
  subst hx
  simp only [setL, List.zip_nil_right, List.foldl_nil]
  exact ⟨hr, trivial⟩
 | p :: ps, x :: xs, vs, st, t, hp, hx, hr => by
  simp only [RepPL] at hx
  obtain ⟨v, r, rfl, h1, h2⟩ := hx
  simp only [setL, List.zip_cons_cons, List.foldl_cons]
  have hpt : p < t.size := hp p (by simp)
  obtain ⟨h3, h4⟩ := setL_rep (G := G) (ps := ps) (xs := xs) (vs := r) (st := st.set p x) (t := t.setIfInBounds p v) (fun q hq => by rw [Array.size_setIfInBounds]; exact hp q (by simp [hq])) h2 (fun i => by
   rw [St.reg_set]
   by_cases hi : i = p
   ·rw [if_pos hi, hi]
    have : (t.setIfInBounds p v).getD p undef = v := by simp [Array.getD_eq_getD_getElem?, hpt]
    rw [this]
    exact RepP.rep G h1
   ·rw [if_neg hi]
    have : (t.setIfInBounds p v).getD i undef = t.getD i undef := by
     simp only [Array.getD_eq_getD_getElem?]
     rw [Array.getElem?_setIfInBounds_ne (Ne.symm hi)]
    rw [this]
    exact hr i)
  exact ⟨h3, by rw [h4, Array.size_setIfInBounds]⟩
theorem objsLt_spec {kp : List Nat} : ∀ {os : List (Nat × Ob)} {k : Nat} {ob : Ob}, objsLt kp os = true → optA os k = some ob → k ∈ kp
 | [], k, ob, h, e => by simp [optA] at e
 | (j, o) :: r, k, ob, h, e => by
  simp only [objsLt, Bool.and_eq_true] at h
  simp only [optA] at e
  cases hb : Nat.beq j k with
  | true =>
   have := Nat.eq_of_beq_eq_true hb
   subst this
   exact memN_iff.1 h.1
  | false =>
   rw [hb] at e
   exact objsLt_spec h.2 e
/-! What is lent while a range runs. -/
def KB (lk : List Nat) (G : Ctx) (b : Nat) : Prop := ∃ k s, memK lk k = true ∧ G k = some s ∧ s.block = some b
def hideC (lk : List Nat) (G : Ctx) : Ctx := fun k => bif memK lk k then none else G k
def backC (lk : List Nat) (G G' : Ctx) : Ctx := fun k => bif memK lk k then G k else G' k
/-- What is lent stands by: its blocks are as they were, nobody else has them, nothing that was there is seen of more. -/
structure Stands (lk : List Nat) (V : View) (G : Ctx) (w : World) (V' : View) (G' : Ctx) (W : World) : Prop where
 same : ∀ b, KB lk G b → W.heap[b]? = w.heap[b]?
 far : ∀ j s b, G' j = some s → s.block = some b → ¬ KB lk G b
 view : ∀ b o, b < w.heap.size → V' b o = V b o
 size : w.heap.size ≤ W.heap.size
theorem KB_lt {lk : List Nat} {b : Nat} {μ : Nat → Option Ob} (hs : Sat W0 V0 Own V G w μ) (h : KB lk G b) : b < w.heap.size := by
 obtain ⟨k, s, _, e, hb⟩ := h
 exact (hs.priv k s b e hb).1
theorem Stands.init {lk : List Nat} {μ : Nat → Option Ob} (hs : Sat W0 V0 Own V G w μ) : Stands lk V G w V (hideC lk G) w := by
 refine ⟨fun _ _ => rfl, fun j s b e hb => ?_, fun _ _ _ => rfl, Nat.le_refl _⟩
 rintro ⟨k, s', h1, h2, h3⟩
 unfold hideC at e
 cases hj : memK lk j with
 | true => rw [hj] at e; cases e
 | false =>
  rw [hj] at e
  have := hs.inj j k s s' b e h2 hb h3
  subst this
  rw [hj] at h1
  cases h1
theorem Stands.quiet {lk : List Nat} {μ : Nat → Option Ob} {V' : View} {G' : Ctx} {W W' : World} (h : Stands lk V G w V' G' W) (hs : Sat W0 V0 Own V G w μ) (hq : Quiet w.heap.size W W') : Stands lk V G w V' G' W' := by
 refine ⟨fun b hb => ?_, h.far, h.view, Nat.le_trans h.size hq.size⟩
 have hlt := KB_lt hs hb
 have hlt' : b < W.heap.size := Nat.lt_of_lt_of_le hlt h.size
 rw [← h.same b hb, Array.getElem?_eq_getElem hlt']
 exact hq.same b _ (Array.getElem?_eq_getElem hlt') (.inl hlt)
theorem Stands.trans {lk : List Nat} {μ μ' : Nat → Option Ob} {V' V1 : View} {G' G1 : Ctx} {W W1 : World} (h : Stands lk V G w V' G' W) (hs : Sat W0 V0 Own V G w μ) (hsz : w.heap.size ≤ W.heap.size) (h1 : Sat W V' G'.owns V1 G1 W1 μ') : Stands lk V G w V1 G1 W1 := by
 have hno : ∀ b, KB lk G b → ¬ G'.owns.own b := by
  rintro b hb ⟨k, s, e, hb'⟩
  exact h.far k s b e hb' hb
 refine ⟨fun b hb => ?_, fun j s b e hb hk => ?_, fun b o hb => ?_, Nat.le_trans h.size h1.keep.size⟩
 ·have hlt := KB_lt hs hb
  rw [h1.keep.block b (by omega) (hno b hb)]
  exact h.same b hb
 ·have hlt := KB_lt hs hk
  rcases (h1.priv j s b e hb).2.1 with q | q
  ·exact hno b hk q
  ·omega
 ·rw [h1.vnew b o (by omega)]
  exact h.view b o hb
theorem lentView {lk : List Nat} {μ : Nat → Option Ob} (hs : Sat W0 V0 Own V G w μ) : ∃ VL : View, V.le VL ∧ Shows w G (showM lk μ) VL ∧ (∀ b o v, VL b o = some v → V b o = some v ∨ (KB lk G b ∧ w.cell? ⟨b, o, none⟩ = some v)) ∧ (lk = [] → VL = V) := by
 refine ⟨fun b o => @ite _ (KB lk G b) (Classical.propDecidable _) (w.cell? ⟨b, o, none⟩) (V b o), fun b o v e => ?_, fun k ob s b o v e hg hb hc => ?_, fun b o v e => ?_, fun e => ?_⟩
 ·show @ite _ _ (Classical.propDecidable _) _ _ = _
  split
  ·exact hs.view b o v e
  ·exact e
 ·show @ite _ _ (Classical.propDecidable _) _ _ = _
  rw [if_pos]
  ·exact hc
  ·unfold showM at e
   cases hk : memK lk k with
   | true => exact ⟨k, s, hk, hg, hb⟩
   | false => rw [hk] at e; cases e
 ·revert e
  show @ite _ _ (Classical.propDecidable _) _ _ = _ → _
  split
  ·rename_i hk
   exact fun e => .inr ⟨hk, e⟩
  ·exact fun e => .inl e
 ·subst e
  funext b o
  show @ite _ _ (Classical.propDecidable _) _ _ = _
  rw [if_neg]
  rintro ⟨k, s, h, _⟩
  cases h
theorem lendV_rep {lk : List Nat} {μ : Nat → Option Ob} {VL : View} {x : AV} {v : Value} (hs : Sat W0 V0 Own V G w μ) (hV : V.le VL) (hX : Shows w G (showM lk μ) VL) (h : Rep V G x v) : ∃ G2, Rep VL G2 (lendV lk μ x) v := by
 cases lk with
 | nil => exact ⟨G, h.mono hV (Ctx.le_refl _)⟩
 | cons k r =>
  refine ⟨fun _ => none, bor_rep (fun j ob e => ?_) hV hX h⟩
  unfold showM at e
  cases hk : memK (k :: r) j with
  | true => rw [hk] at e; exact hs.obs j ob e
  | false => rw [hk] at e; cases e
theorem hideV_rep {lk : List Nat} {x : AV} {v : Value} (h : Rep V G x v) : Rep V (hideC lk G) (hideV lk x) v := by
 have key : ∀ k, memK lk k = false → hideC lk G k = G k := fun k e => by unfold hideC; rw [e]; rfl
 unfold hideV
 cases hx : keyX x with
 | none =>
  simp only
  cases hp : isP x with
  | true => exact (h.pure hp).rep _
  | false => simp only [cond_false, Rep]
 | some k0 =>
  simp only
  cases hk : memK lk k0 with
  | true => simp only [cond_true, Rep]
  | false =>
   cases x <;> simp only [keyX, Option.some.injEq] at hx <;> try (cases hx; done)
   all_goals
    subst hx
    simp only [cond_false, Rep] at h ⊢
    rw [key _ hk]
    exact h
theorem hideV_repL {lk : List Nat} : ∀ {xs : List AV} {us : List Value}, RepL V G xs us → RepL V (hideC lk G) (xs.map (hideV lk)) us
 | [], us, h => by simpa [RepL] using h
 | x :: xs, us, h => by
  simp only [List.map_cons, RepL] at h ⊢
  obtain ⟨y, r, e, p, q⟩ := h
  exact ⟨y, r, e, hideV_rep p, hideV_repL q⟩
theorem hideC_nil : hideC [] G = G := by funext k; rfl
theorem mapA_get {f : AV → AV} (hf : f .dead = .dead) : ∀ {r : List (Nat × AV)} {i : Nat}, getA .dead (mapA f r) i = f (getA .dead r i)
 | [], i => by simp only [mapA, getA, hf]
 | (j, x) :: r, i => by
  simp only [mapA, getA]
  cases Nat.beq j i
  ·exact mapA_get hf
  ·rfl
theorem hideR_rep {lk : List Nat} {os : List (Nat × Ob)} {i : Nat} {v : Value} (h : Rep V G (st.reg i) v) : Rep V (hideC lk G) ((St.mk (hideR lk st.regs) os).reg i) v := by
 cases lk with
 | nil => rw [hideC_nil]; exact h
 | cons k r =>
  show Rep V _ (getA .dead (mapA (hideV (k :: r)) st.regs) i) v
  rw [mapA_get (by rfl)]
  exact hideV_rep h
theorem hideL_get {lk : List Nat} : ∀ {os : List (Nat × Ob)} {k : Nat}, optA (hideL lk os) k = bif memK lk k then none else (optA os k).map (hideOb lk)
 | [], k => by simp [hideL, optA]
 | (j, o) :: r, k => by
  simp only [hideL, optA]
  cases hj : memK lk j with
  | true =>
   rw [cond_true, hideL_get]
   cases hb : Nat.beq j k with
   | true =>
    have := Nat.eq_of_beq_eq_true hb
    subst this
    rw [hj]
    rfl
   | false => rfl
  | false =>
   rw [cond_false]
   simp only [optA]
   cases hb : Nat.beq j k with
   | true =>
    have := Nat.eq_of_beq_eq_true hb
    subst this
    rw [hj]
    rfl
   | false => exact hideL_get
theorem hide_sat {lk : List Nat} {os : List (Nat × Ob)} (hs : Sat W0 V0 Own V G w (optA os)) : Sat W0 V0 Own V (hideC lk G) w (optA (hideO lk os)) := by
 cases lk with
 | nil => rw [hideC_nil]; exact hs
 | cons k0 r0 =>
  have hget : ∀ k, optA (hideO (k0 :: r0) os) k = bif memK (k0 :: r0) k then none else (optA os k).map (hideOb (k0 :: r0)) := fun k => hideL_get
  generalize k0 :: r0 = lk at hget ⊢
  have hG : ∀ {k s}, hideC lk G k = some s → memK lk k = false ∧ G k = some s := by
   intro k s e
   unfold hideC at e
   cases hk : memK lk k with
   | true => rw [hk] at e; cases e
   | false => rw [hk] at e; exact ⟨rfl, e⟩
  refine ⟨hs.keep, hs.view, hs.vle, hs.vnew, fun k ob e => ?_, fun k s e => ?_, fun k s b e hb => hs.priv k s b (hG e).2 hb, fun k k' s s' b e e' hb hb' => hs.inj k k' s s' b (hG e).2 (hG e').2 hb hb', fun k s b e hb hlt => hs.loc k s b (hG e).2 hb hlt, hs.glob⟩
  ·rw [hget] at e
   cases hk : memK lk k with
   | true => rw [hk] at e; cases e
   | false =>
    rw [hk, cond_false] at e
    obtain ⟨ob0, e0, rfl⟩ := Option.map_eq_some_iff.1 e
    obtain ⟨s, g1, g2⟩ := hs.obs k ob0 e0
    refine ⟨s, by unfold hideC; rw [hk]; exact g1, ?_⟩
    cases s <;> cases ob0 <;> simp only [ObOk, hideOb] at g2 ⊢
    ·obtain ⟨us, T, q1, q2, q3⟩ := g2
     exact ⟨us, T, q1, hideV_repL q2, q3⟩
    ·exact g2
    ·exact g2
    ·obtain ⟨h1, h2, h3, h4, h5⟩ := g2
     refine ⟨h1, h2, by simpa using h3, fun e => by rw [h4 e]; rfl, fun b o tot e => ?_⟩
     obtain ⟨us, T, q1, q2, q3, q4, q5⟩ := h5 b o tot e
     exact ⟨us, T, q1, q2, q3, hideV_repL q4, q5⟩
  ·obtain ⟨h1, h2⟩ := hG e
   obtain ⟨ob, e0⟩ := hs.dom k s h2
   rw [hget, h1, cond_false, e0]
   exact ⟨_, rfl⟩
theorem showL_get {lk : List Nat} : ∀ {os os' : List (Nat × Ob)} {k : Nat}, optA (showL lk os ++ os') k = bif memK lk k then (optA os k).or (optA os' k) else optA os' k
 | [], os', k => by cases h : memK lk k <;> simp [showL, optA]
 | (j, o) :: r, os', k => by
  simp only [showL, optA]
  cases hj : memK lk j with
  | true =>
   rw [cond_true, List.cons_append]
   simp only [optA]
   cases hb : Nat.beq j k with
   | true =>
    have := Nat.eq_of_beq_eq_true hb
    subst this
    rw [hj]
    rfl
   | false => exact showL_get
  | false =>
   rw [cond_false, showL_get]
   cases hb : Nat.beq j k with
   | true =>
    have := Nat.eq_of_beq_eq_true hb
    subst this
    rw [hj]
    rfl
   | false => rfl
theorem back_sat {lk : List Nat} {V' : View} {G' : Ctx} {W : World} {os : List (Nat × Ob)} (hs : Sat W0 V0 Own V G w st.ob) (hV : V.le V') (hG : (hideC lk G).le G') (h : Sat W0 V0 Own V' G' W (optA os)) (hn : noneO lk os = true) (hst : Stands lk V G w V' G' W) :
  G.le (backC lk G G') ∧ Sat W0 V0 Own V' (backC lk G G') W (optA (backO lk st.objs os)) := by
 have hle : G.le (backC lk G G') := fun k s e => by
  unfold backC
  cases hk : memK lk k with
  | true => exact ⟨s, e, s.le_refl⟩
  | false => exact hG k s (by unfold hideC; rw [hk]; exact e)
 refine ⟨hle, ?_⟩
 cases lk with
 | nil =>
  have : backC [] G G' = G' := by funext k; rfl
  rw [this]
  exact h
 | cons k0 r0 =>
  have hget : ∀ k, optA (backO (k0 :: r0) st.objs os) k = bif memK (k0 :: r0) k then (optA st.objs k).or (optA os k) else optA os k := fun k => showL_get
  generalize k0 :: r0 = lk at *
  have hnone : ∀ k, memK lk k = true → optA os k = none := fun k hk => by
   have := List.all_eq_true.1 hn k (memK_iff.1 hk)
   simpa using this
  have hG'none : ∀ k, memK lk k = true → G' k = none := fun k hk => by
   cases e : G' k with
   | none => rfl
   | some s =>
    obtain ⟨ob, e'⟩ := h.dom k s e
    rw [hnone k hk] at e'
    cases e'
  have hle' : G'.le (backC lk G G') := fun k s e => by
   refine ⟨s, ?_, s.le_refl⟩
   unfold backC
   cases hk : memK lk k with
   | true => rw [hG'none k hk] at e; cases e
   | false => exact e
  have hbk : ∀ {k s}, backC lk G G' k = some s → (memK lk k = true ∧ G k = some s) ∨ (memK lk k = false ∧ G' k = some s) := by
   intro k s e
   unfold backC at e
   cases hk : memK lk k with
   | true => rw [hk] at e; exact .inl ⟨rfl, e⟩
   | false => rw [hk] at e; exact .inr ⟨rfl, e⟩
  refine ⟨h.keep, h.view, h.vle, h.vnew, fun k ob e => ?_, fun k s e => ?_, fun k s b e hb => ?_, fun k k' s s' b e e' hb hb' => ?_, fun k s b e hb hlt => ?_, h.glob⟩
  ·rw [hget] at e
   cases hk : memK lk k with
   | true =>
    rw [hk, cond_true, hnone k hk, Option.or_none] at e
    obtain ⟨s, g1, g2⟩ := hs.obs k ob e
    exact ⟨s, by unfold backC; rw [hk]; exact g1, g2.mono hV hle fun b hb => hst.same b ⟨k, s, hk, g1, hb⟩⟩
   | false =>
    rw [hk, cond_false] at e
    obtain ⟨s, g1, g2⟩ := h.obs k ob e
    exact ⟨s, by unfold backC; rw [hk]; exact g1, g2.mono (View.le_refl _) hle' fun _ _ => rfl⟩
  ·rw [hget]
   rcases hbk e with ⟨hk, e⟩ | ⟨hk, e⟩
   ·obtain ⟨ob, e0⟩ := hs.dom k s e
    have e0 : optA st.objs k = some ob := e0
    rw [hk, cond_true, e0]
    exact ⟨_, rfl⟩
   ·obtain ⟨ob, e0⟩ := h.dom k s e
    rw [hk, cond_false]
    exact ⟨ob, e0⟩
  ·rcases hbk e with ⟨hk, e⟩ | ⟨hk, e⟩
   ·obtain ⟨p1, p2, p3⟩ := hs.priv k s b e hb
    exact ⟨Nat.lt_of_lt_of_le p1 hst.size, p2, fun o => by rw [hst.view b o p1]; exact p3 o⟩
   ·exact h.priv k s b e hb
  ·rcases hbk e with ⟨hk, e⟩ | ⟨hk, e⟩ <;> rcases hbk e' with ⟨hk', e'⟩ | ⟨hk', e'⟩
   ·exact hs.inj k k' s s' b e e' hb hb'
   ·exact absurd ⟨k, s, hk, e, hb⟩ (hst.far k' s' b e' hb')
   ·exact absurd ⟨k', s', hk', e', hb'⟩ (hst.far k s b e hb)
   ·exact h.inj k k' s s' b e e' hb hb'
  ·rcases hbk e with ⟨hk, e⟩ | ⟨hk, e⟩
   ·exact hs.loc k s b e hb hlt
   ·exact h.loc k s b e hb hlt
theorem showL_lt {lk kp : List Nat} (hlk : lk.all (memN kp) = true) : ∀ {old os : List (Nat × Ob)}, objsLt kp os = true → objsLt kp (showL lk old ++ os) = true
 | [], os, h => h
 | (j, o) :: r, os, h => by
  simp only [showL]
  cases hj : memK lk j with
  | true =>
   simp only [cond_true, List.cons_append, objsLt, Bool.and_eq_true]
   exact ⟨List.all_eq_true.1 hlk j (memK_iff.1 hj), showL_lt hlk h⟩
  | false => exact showL_lt hlk h
theorem backO_lt {lk kp : List Nat} {old os : List (Nat × Ob)} (hlk : lk.all (memN kp) = true) (h : objsLt kp os = true) : objsLt kp (backO lk old os) = true := by
 cases lk with
 | nil => exact h
 | cons k r => exact showL_lt hlk h
theorem code_sound {kp : List Nat} : ∀ {x : ACode} {r : Option Nat} {top : Bool} {B0 : Nat} {c : Code} {W0 : World} {V0 : View} {Own : Fra} {st : St} {a : Act} {w : World} {V : View} {G : Ctx} {QA : AEx → St → Prop} {Q : Exit → Act → World → Prop},
  (top = true → r = none) → ¬ LetsOut Q → Env B0 kp r W0 Own → okc P N kp top c x = true → awp P x st QA → Rel W0 V0 Own N st a w V G →
  (∀ ae st' a' w' V' G' W1 V1 Own1, QA ae st' → Env B0 kp r W1 Own1 → Later W0 V0 Own W1 V1 Own1 → Rel W1 V1 Own1 N st' a' w' V' G' → Q ae.ex a' w') → c.wpIn (FR r) 0 P Q a w := by
 intro x
 induction x with
 | pre p x ih =>
  intro r top B0 c W0 V0 Own st a w V G QA Q hr0 hout henv hok h hr hQ
  have hok : okPse kp p = true ∧ okc P N kp top c x = true := by cases c <;> simpa [okc] using hok
  obtain ⟨st', V', G', h', hr'⟩ := pse_sound hok.1 henv.key henv.ctx h hr
  exact ih hr0 hout henv hok.2 h' hr' hQ
 | post x p ih =>
  intro r top B0 c W0 V0 Own st a w V G QA Q hr0 hout henv hok h hr hQ
  have hok : okPse kp p = true ∧ okc P N kp top c x = true := by cases c <;> simpa [okc] using hok
  refine ih hr0 hout henv hok.2 h hr fun ae st' a' w' V' G' W1 V1 Own1 hq he hl hr' => ?_
  cases ae with
  | normal =>
   obtain ⟨st2, V2, G2, h2, hr2⟩ := pse_sound hok.1 he.key he.ctx hq hr'
   exact hQ _ _ _ _ _ _ _ _ _ h2 he hl hr2
  | exit id => exact hQ _ _ _ _ _ _ _ _ _ hq he hl hr'
  | ret => exact hQ _ _ _ _ _ _ _ _ _ hq he hl hr'
 | alt x y ihx ihy =>
  intro r top B0 c W0 V0 Own st a w V G QA Q hr0 hout henv hok h hr hQ
  have hok : okc P N kp top c x = true ∧ okc P N kp top c y = true := by cases c <;> simpa [okc] using hok
  rcases h with h | h
  ·exact ihx hr0 hout henv hok.1 h hr hQ
  ·exact ihy hr0 hout henv hok.2 h hr hQ
 | skip =>
  intro r top B0 c W0 V0 Own st a w V G QA Q hr0 hout henv hok h hr hQ
  cases c <;> try (simp [okc] at hok; done)
  exact wpIn_skip (hQ .normal _ _ _ _ _ _ _ _ h henv (.refl _ _ _) hr)
 | lbl l =>
  intro r top B0 c W0 V0 Own st a w V G QA Q hr0 hout henv hok h hr hQ
  cases c <;> try (simp [okc] at hok; done)
  exact wpIn_label (hQ .normal _ _ _ _ _ _ _ _ h henv (.refl _ _ _) hr)
 | exit id =>
  intro r top B0 c W0 V0 Own st a w V G QA Q hr0 hout henv hok h hr hQ
  cases c <;> try (simp [okc] at hok; done)
  simp only [okc] at hok
  rw [Nat.eq_of_beq_eq_true hok]
  exact wpIn_exit (hQ (.exit id) _ _ _ _ _ _ _ _ h henv (.refl _ _ _) hr)
 | ret =>
  intro r top B0 c W0 V0 Own st a w V G QA Q hr0 hout henv hok h hr hQ
  cases c <;> try (simp [okc] at hok; done)
  exact wpIn_ret (hQ .ret _ _ _ _ _ _ _ _ h henv (.refl _ _ _) hr)
 | ops l =>
  intro r top B0 c W0 V0 Own st a w V G QA Q hr0 hout henv hok h hr hQ
  cases c <;> try (simp [okc] at hok; done)
  rename_i id os dr
  cases dr with
  | true => simp [okc] at hok
  | false =>
   simp only [okc, Bool.and_eq_true] at hok
   refine wpIn_region (wpOps_FR hout hok.1 ?_)
   have := tops_sound (P := P) (ops := os) (k := 0) (Q := Q) (by rw [List.drop_zero]; exact hok.2) h hr fun st' a' w' V' G' hq hr' => hQ .normal st' a' w' V' G' _ _ _ hq henv (.refl _ _ _) hr'
   rw [List.range_eq_range']
   exact this
 | draw prec is =>
  intro r top B0 c W0 V0 Own st a w V G QA Q hr0 hout henv hok h hr hQ
  cases c <;> try (simp [okc] at hok; done)
  rename_i id os dr
  cases dr with
  | false => simp [okc] at hok
  | true =>
   simp only [okc, Bool.and_eq_true] at hok
   obtain ⟨⟨⟨⟨⟨h0, h1⟩, h2⟩, h3⟩, h4⟩, h5⟩ := hok
   obtain ⟨rs, st', t1, t2, t3, t4⟩ := aitems_trace h (Same.refl st) h2
   refine wpIn_region_any h5 (wpAny_FR hout h0 ?_)
   have hacc : accsOk prec (rs.map (·.acc)) = true := by
    have : (accsOf rs []).reverse = rs.map (·.acc) := by simp [accsOf]
    rw [← this]
    exact t3
   have hfalse : ∀ i, isL (Array.replicate os.size false) i = false := by
    intro i
    unfold isL
    simp only [Array.getD_eq_getD_getElem?]
    by_cases hi : i < os.size
    ·simp [hi]
    ·simp [hi]
   have hfold : ∀ n, foldN (flat is) rs st (isL (Array.replicate os.size false)) n = st := by
    intro n
    induction n with
    | zero => rfl
    | succ n ih => simp only [foldN, hfalse, Bool.false_eq_true, if_false]; exact ih
   refine drawn_sound h1 t1 h3 h4 hacc (fun a' w' V' G' hr' => hQ .normal _ _ _ _ _ _ _ _ t4 henv (.refl _ _ _) (hr'.same t2)) os.size _ a _ V G (by simp) (fun i o hi => by rw [hfalse] at hi; cases hi) ?_ ?_
   ·have := List.countP_le_length (p := fun i => !isL (Array.replicate os.size false) i) (l := List.range os.size)
    simpa using this
   ·rw [hfold]
    exact hr.drew
 | seq x y ihx ihy =>
  intro r top B0 c W0 V0 Own st a w V G QA Q hr0 hout henv hok h hr hQ
  cases c <;> try (simp [okc] at hok; done)
  simp only [okc, Bool.and_eq_true] at hok
  refine wpIn_seq (ihx hr0 hout henv hok.1 h hr fun ae st' a' w' V' G' W1 V1 Own1 hq he hl hr' => ?_)
  cases ae with
  | normal => exact ihy hr0 hout he hok.2 hq hr' fun ae st' a' w' V' G' W2 V2 Own2 hq he2 hl2 hr2 => hQ ae st' a' w' V' G' W2 V2 Own2 hq he2 (hl.trans hl2) hr2
  | exit id => exact hQ _ _ _ _ _ _ _ _ _ hq he hl hr'
  | ret => exact hQ _ _ _ _ _ _ _ _ _ hq he hl hr'
 | join x y ihx ihy =>
  intro r top B0 c W0 V0 Own st a w V G QA Q hr0 hout henv hok h hr hQ
  cases c <;> try (simp [okc] at hok; done)
  simp only [okc, Bool.and_eq_true] at hok
  refine wpIn_seq (ihx hr0 hout henv hok.1 h hr fun ae st' a' w' V' G' W1 V1 Own1 hq he hl hr' => ?_)
  cases ae with
  | normal => exact ihy hr0 hout he hok.2 hq hr' fun ae st' a' w' V' G' W2 V2 Own2 hq he2 hl2 hr2 => hQ ae st' a' w' V' G' W2 V2 Own2 hq he2 (hl.trans hl2) hr2
  | exit id => exact hQ _ _ _ _ _ _ _ _ _ hq he hl hr'
  | ret => exact hQ _ _ _ _ _ _ _ _ _ hq he hl hr'
 | cond c' x y ihx ihy =>
  intro r top B0 c W0 V0 Own st a w V G QA Q hr0 hout henv hok h hr hQ
  cases c <;> try (simp [okc] at hok; done)
  simp only [okc, Bool.and_eq_true] at hok
  obtain ⟨b, hb, ht, he⟩ := h
  have hc := okA_rep (hr.sat.glob.mono hr.sat.vle) hr.regs hok.1.1
  rw [hb] at hc
  cases b with
  | some b => exact wpIn_cond_split (rep_bool hc) (fun e => ihx hr0 hout henv hok.1.2 (ht (by rw [e]; simp)) hr hQ) (fun e => ihy hr0 hout henv hok.2 (he (by rw [e]; simp)) hr hQ)
  | none =>
   simp only [Rep, RepP] at hc
   obtain ⟨b, hc⟩ := hc
   exact wpIn_cond_split hc (fun _ => ihx hr0 hout henv hok.1.2 (ht (by simp)) hr hQ) (fun _ => ihy hr0 hout henv hok.2 (he (by simp)) hr hQ)
 | block id x ih =>
  intro r top B0 c W0 V0 Own st a w V G QA Q hr0 hout henv hok h hr hQ
  cases c <;> try (simp [okc] at hok; done)
  simp only [okc, Bool.and_eq_true] at hok
  rw [Nat.eq_of_beq_eq_true hok.1]
  refine wpIn_block (ih hr0 hout henv hok.2 h hr fun ae st' a' w' V' G' W1 V1 Own1 hq he hl hr' => ?_)
  cases ae with
  | normal => exact hQ .normal _ _ _ _ _ _ _ _ hq he hl hr'
  | exit j =>
   simp only [AEx.blk] at hq
   simp only [AEx.ex, Exit.inBlock]
   by_cases hj : j = id
   ·rw [if_pos hj]
    rw [hj, Nat.beq_refl] at hq
    exact hQ .normal _ _ _ _ _ _ _ _ hq he hl hr'
   ·rw [if_neg hj]
    rw [beq_ne hj] at hq
    exact hQ (.exit j) _ _ _ _ _ _ _ _ hq he hl hr'
  | ret => exact hQ .ret _ _ _ _ _ _ _ _ hq he hl hr'
 | loop x ih =>
  intro r top B0 c W0 V0 Own st a w V G QA Q hr0 hout henv hok h hr hQ
  cases c <;> try (simp [okc] at hok; done)
  simp only [okc] at hok
  obtain ⟨I, m, h0, hround⟩ := h
  refine wpIn_loopI (fun n a w => ∃ st V G W1 V1 Own1, I st ∧ m st = n ∧ Env B0 kp r W1 Own1 ∧ Later W0 V0 Own W1 V1 Own1 ∧ Rel W1 V1 Own1 N st a w V G) (n := m st) ⟨st, V, G, W0, V0, Own, h0, rfl, henv, .refl _ _ _, hr⟩ ?_
  rintro n a w ⟨st, V, G, W1, V1, Own1, hI, rfl, he, hl, hr⟩
  refine ih hr0 hout he hok (hround st hI) hr fun ae st' a' w' V' G' W2 V2 Own2 hq he2 hl2 hr' => ?_
  cases ae with
  | normal => exact ⟨m st', hq.2, st', V', G', W2, V2, Own2, hq.1, rfl, he2, hl.trans hl2, hr'⟩
  | exit id => exact hQ _ _ _ _ _ _ _ _ _ hq he2 (hl.trans hl2) hr'
  | ret => exact hQ _ _ _ _ _ _ _ _ _ hq he2 (hl.trans hl2) hr'
 | scope x ih =>
  intro r top B0 c W0 V0 Own st a w V G QA Q hr0 hout henv hok h hr hQ
  cases c <;> try (simp [okc] at hok; done)
  simp only [okc] at hok
  refine wpIn_scope (ih hr0 hout henv hok h hr fun ae st' a' w' V' G' W1 V1 Own1 hq he hl hr' => ?_)
  cases ae with
  | normal => exact hQ .normal _ _ _ _ _ _ _ _ hq he hl hr'
  | exit id => exact hQ (.exit id) _ _ _ _ _ _ _ _ hq he hl hr'
  | ret => exact hQ .ret _ _ _ _ _ _ _ _ hq he hl hr'
 | rfunc lk kq g ps asg body ihA ihB =>
  intro r top B0 c W0 V0 Own st a w V G QA Q hr0 hout henv hok h hr hQ
  cases c <;> try (simp [okc] at hok; done)
  rename_i gop qs cA cB
  simp only [okc, Bool.and_eq_true, decide_eq_true_eq] at hok
  obtain ⟨⟨⟨⟨⟨⟨⟨h1, hlk⟩, h2⟩, h3⟩, h4⟩, h5⟩, h6⟩, h7⟩ := hok
  have hrn := hr0 h1
  subst hrn
  subst h2
  obtain ⟨f, pre, caps, xs, I, hgv, ⟨hokf, hiter⟩, hscl, hlen, hI0, hlt, hround, hdone⟩ := h
  have hgr := okA_rep (hr.sat.glob.mono hr.sat.vle) hr.regs h3
  obtain ⟨VL, hVL1, hVL2, hVL3, hVL4⟩ := lentView (lk := lk) hr.sat
  obtain ⟨pv, cv, hgval, hpres, hcaps⟩ : ∃ pv cv : List Value, a.eval gop = .func (.func f) pv.toArray cv.toArray ∧ RepPL VL pre pv ∧ RepPL VL caps cv := by
   obtain ⟨G2, hgr2⟩ := lendV_rep (lk := lk) hr.sat hVL1 hVL2 hgr
   rcases hgv with ⟨hgv, hpl, rfl⟩ | ⟨hgv, hpl, rfl⟩
   ·rw [hgv] at hgr2
    simp only [Rep] at hgr2
    obtain ⟨cv, hgval, hcaps⟩ := hgr2
    exact ⟨[], cv, hgval, by simp only [RepPL], hcaps.pure hpl⟩
   ·rw [hgv] at hgr2
    simp only [Rep] at hgr2
    obtain ⟨pv, hgval, hpre⟩ := hgr2
    exact ⟨pv, [], hgval, hpre.pure hpl, by simp only [RepPL]⟩
  obtain ⟨vals, hvl, hvr, hseq⟩ := hiter VL pv cv ((hr.sat.glob.mono hr.sat.vle).mono hVL1) hpres hcaps
  have hlowW : W0.heap.size ≤ w.heap.size := hr.sat.keep.size
  have hqs : qs.size = ps.length := by rw [← h4]; simp
  have hval : ∀ {k : Nat} {v : Array Value}, vals[k]? = some v → ∃ x, xs[k]? = some x ∧ RepPL V x v.toList ∧ x.length = ps.length := by
   intro k v hk
   have hkl : k < xs.length := by rw [← hvl]; exact getElem?_lt hk
   have hx := List.getElem?_eq_getElem hkl
   refine ⟨_, hx, ?_, hlen _ (List.getElem_mem hkl)⟩
   have hv := hvr k _ v hx hk
   rcases hscl with e | hscl
   ·rw [hVL4 e] at hv
    exact hv
   ·exact scal1L_rep (hscl _ (List.getElem_mem hkl)) hv
  have hps : ∀ x ∈ vals, x.size = qs.size := by
   intro v hv
   obtain ⟨k, hk⟩ := List.getElem?_of_mem hv
   obtain ⟨x, _, hx, hl⟩ := hval hk
   have := hx.length
   rw [Array.length_toList] at this
   omega
  have hcellsG : ∀ {W0 : World} {V0 : View} {Own : Fra} {V' : View} {G' : Ctx} {W : World} {μ : Nat → Option Ob} {b : Nat}, Sat W0 V0 Own V' G' W μ → G'.owns.own b → ∃ x : Obj, W.heap[b]? = some x ∧ x.isCells = true := by
   intro W0 V0 Own V' G' W μ b hs ho
   obtain ⟨k, s, e, hb⟩ := ho
   obtain ⟨ob, e1⟩ := hs.dom k s e
   obtain ⟨s2, e2, hok⟩ := hs.obs k ob e1
   rw [e] at e2
   cases e2
   exact hok.cells hb
  have hkeys : ∀ {W0 : World} {V0 : View} {Own : Fra} {V' : View} {G' : Ctx} {W : World} {os : List (Nat × Ob)}, Sat W0 V0 Own V' G' W (optA os) → objsLt kq os = true → ∀ k s, G' k = some s → k ∈ kq := by
   intro W0 V0 Own V' G' W os hs ho k s e
   obtain ⟨ob, e1⟩ := hs.dom k s e
   exact objsLt_spec ho e1
  have again : ∀ (D : Nat) (W : World) (V' : View) (G' : Ctx) (os : List (Nat × Ob)), V.le V' → G.le G' → Sat W0 V0 Own V' G' W (optA os) → objsLt kq os = true → w.heap.size ≤ D → W.heap[D]? = some (.deferred (some [])) →
    Env B0 kq none W ⟨G'.owns.own, G'.owns.key, G', { target := .collected D, args := #[] } :: Own.dfs⟩ ∧ Later W0 V0 Own W V' ⟨G'.owns.own, G'.owns.key, G', { target := .collected D, args := #[] } :: Own.dfs⟩ ∧
    Rel W V' ⟨G'.owns.own, G'.owns.key, G', { target := .collected D, args := #[] } :: Own.dfs⟩ N ⟨st.regs, os⟩ { a with defers := { target := .collected D, args := #[] } :: a.defers } W V' G' := by
   intro D W V' G' os hV hG hs ho hD hWD
   have hnc : ∀ {b : Nat}, W.heap[b]? = some (.deferred (some [])) → ¬ G'.owns.own b := by
    intro b e hown
    obtain ⟨x, hx, hc⟩ := hcellsG hs hown
    rw [e] at hx
    cases hx
    cases hc
   refine ⟨⟨?_, ?_, Nat.le_trans henv.low hs.keep.size, ?_, ?_⟩, ⟨?_, Ctx.le_trans hr.ini hG⟩, ⟨?_, ?_, hr.size, ?_, Ctx.le_refl _⟩⟩
   ·rintro k b ⟨s, e, _⟩
    exact hkeys hs ho k s e
   ·exact fun k s e => hkeys hs ho k s e
   ·intro _ d hd
    rcases List.mem_cons.1 hd with rfl | hd
    ·exact ⟨D, rfl, by have := henv.low; omega, (Array.getElem?_eq_some_iff.1 hWD).1, hnc hWD, hWD⟩
    ·obtain ⟨D', rfl, g1, g2, g3, g4⟩ := henv.dfs rfl d hd
     have g5 : W.heap[D']? = some (.deferred (some [])) := by rw [hs.keep.block D' g2 g3]; exact g4
     exact ⟨D', rfl, g1, Nat.lt_of_lt_of_le g2 hs.keep.size, hnc g5, g5⟩
   ·intro _
    refine List.Pairwise.cons (fun d hd e => ?_) (henv.dist rfl)
    obtain ⟨D', rfl, g1, g2, g3, g4⟩ := henv.dfs rfl d hd
    simp at e
    omega
   ·intro V2 G2 w2 μ2 hs2
    exact hs.trans hs2.dfs
   ·exact hs.rebase.dfs
   ·exact fun i => (hr.regs i).mono hV hG
   ·simp only [hr.defers]
  -- what is lent stands by while the rounds run
  have stand0 : Stands lk V G w V (hideC lk G) w := Stands.init hr.sat
  have finish : ∀ (W : World) (V' : View) (G' : Ctx) (os : List (Nat × Ob)), V.le V' → (hideC lk G).le G' → Sat W0 V0 Own V' G' W (optA os) → noneO lk os = true → Stands lk V G w V' G' W →
    G.le (backC lk G G') ∧ Sat W0 V0 Own V' (backC lk G G') W (optA (backO lk st.objs os)) := fun W V' G' os g1 g2 g3 g4 g5 => back_sat hr.sat g1 g2 g3 g4 g5
  have hlt2 : ∀ (os : List (Nat × Ob)), objsLt kq os = true → objsLt kq (backO lk st.objs os) = true := fun os h => backO_lt hlk h
  refine rfunc_wpIn (V := VL) (xs := vals) hgval hokf hseq hps
   (fun k W => ∃ V' G' os, V.le V' ∧ (hideC lk G).le G' ∧ Sat W0 V0 Own V' G' W (optA os) ∧ I k os ∧ Stands lk V G w V' G' W)
   (fun c W => ∃ V' G' os, V.le V' ∧ G.le G' ∧ Sat W0 V0 Own V' G' W (optA os) ∧ objsLt kq os = true ∧ ((c = .ret ∧ QA .ret ⟨st.regs, os⟩) ∨ ∃ id, c = .exit id ∧ QA (.exit id) ⟨st.regs, os⟩))
   ?_ ?_ ?_ ?_ ?_ ?_ ?_
  ·rintro k W W' ⟨V', G', os, g1, g2, g3, g4, g5⟩ hq
   exact ⟨V', G', os, g1, g2, g3.quiet hlowW hq, g4, g5.quiet hr.sat hq⟩
  ·rintro c W W' ⟨V', G', os, g1, g2, g3, g4⟩ hq
   exact ⟨V', G', os, g1, g2, g3.quiet hlowW hq, g4⟩
  ·rintro k W ⟨V', G', os, g1, g2, g3, g4, g5⟩ b o v e
   rcases hVL3 b o v e with e | ⟨hb, e⟩
   ·exact g3.view b o v (g1 b o v e)
   ·unfold World.cell? at e ⊢
    rw [g5.same b hb]
    exact e
  ·exact ⟨V, hideC lk G, hideO lk st.objs, View.le_refl _, Ctx.le_refl _, hide_sat hr.sat, hI0, stand0⟩
  ·rintro l k v W hv ⟨V', G', os, g1, g2, g3, g4, g5⟩ hsz
   obtain ⟨x, hx, hxr, hxl⟩ := hval hv
   have hbody := hround k x os hx g4
   have hset := setL_rep (V := V') (G := G') (ps := ps) (xs := x) (vs := v.toList) (st := ⟨hideR lk st.regs, os⟩) (t := a.tmps) (fun p hp => by rw [hr.size]; exact of_decide_eq_true (List.all_eq_true.1 h5 p hp)) (hxr.mono g1) (fun i => (hideR_rep (hr.regs i)).mono g1 g2)
   have htm : (qs.zip v).foldl (fun t (p, v) => t.setIfInBounds p v) a.tmps = (ps.zip v.toList).foldl (fun t (p, v) => t.setIfInBounds p v) a.tmps := by
    rw [← Array.foldl_toList, Array.toList_zip, h4]
   rw [htm]
   have hob := setL_ob (ps := ps) (xs := x) (st := ⟨hideR lk st.regs, os⟩)
   refine ihA (r := some l) (top := false) (B0 := 0) (W0 := W) (V0 := V') (Own := G'.owns) (G := G') (fun h => by cases h) ?_ ?_ h6 hbody ⟨?_, hset.1, by rw [hset.2]; exact hr.size, rfl, Ctx.le_refl _⟩ ?_
   ·rintro ⟨a, w, h⟩
    exact h
   ·exact ⟨fun k b ⟨s, e, _⟩ => hkeys g3 (hlt _ _ g4).1 k s e, fun k s e => hkeys g3 (hlt _ _ g4).1 k s e, Nat.zero_le _, fun h => (by cases h), fun h => (by cases h)⟩
   ·rw [hob.1]
    exact g3.rebase
   ·rintro ae st1 a1 w1 V1 G1 W1 Vb Ob1 ⟨rfl, hlt1, hb⟩ he hl hr1
    have hs1 : Sat W V' G'.owns V1 G1 w1 st1.ob := hl.1 _ _ _ _ hr1.sat
    have hG1 : G'.le G1 := Ctx.le_trans hl.2 hr1.ini
    refine ⟨g3.keepsFrom hs1 _, fun W2 hq => ?_⟩
    have hs2 : Sat W0 V0 Own V1 G1 W2 st1.ob := (g3.trans hs1).quiet hlowW hq
    have g5' : Stands lk V G w V1 G1 W2 := (g5.trans hr.sat hsz hs1).quiet hr.sat hq
    have hsz2 : w.heap.size ≤ W2.heap.size := Nat.le_trans hsz (Nat.le_trans hs1.keep.size hq.size)
    refine ihB (r := some l) (top := false) (B0 := 0) (W0 := W2) (V0 := V1) (Own := ⟨G1.owns.own, G1.owns.key, G1, a1.defers⟩) (G := G1) (fun h => by cases h) ?_ ?_ h7 hb ⟨hs2.rebase.dfs, hr1.regs, hr1.size, rfl, Ctx.le_refl _⟩ ?_
    ·rintro ⟨a, w, h⟩
     exact h
    ·exact ⟨fun k b ⟨s, e, _⟩ => hkeys (os := st1.objs) hs2 hlt1 k s e, fun k s e => hkeys (os := st1.objs) hs2 hlt1 k s e, Nat.zero_le _, fun h => (by cases h), fun h => (by cases h)⟩
    ·intro ae st2 a2 w2 V2 G2 W3 Vc Oc hq2 he2 hl2 hr2
     have hs3 : Sat W2 V1 ⟨G1.owns.own, G1.owns.key, G1, a1.defers⟩ V2 G2 w2 st2.ob := hl2.1 _ _ _ _ hr2.sat
     have hs3 : Sat W2 V1 G1.owns V2 G2 w2 st2.ob := hs3.dfs
     have hV2 : V.le V2 := View.le_trans g1 (View.le_trans hs1.vle hs3.vle)
     have hG2 : (hideC lk G).le G2 := Ctx.le_trans g2 (Ctx.le_trans hG1 (Ctx.le_trans hl2.2 hr2.ini))
     have g6 := g5'.trans hr.sat hsz2 hs3
     cases ae with
     | normal => exact ⟨hs2.keepsFrom hs3 _, V2, G2, st2.objs, hV2, hG2, hs2.trans hs3, hq2, g6⟩
     | ret =>
      obtain ⟨k1, k2⟩ := finish w2 V2 G2 st2.objs hV2 hG2 (hs2.trans hs3) hq2.2.1 g6
      exact ⟨hs2.keepsFrom hs3 _, V2, _, _, hV2, k1, k2, hlt2 _ hq2.1, .inl ⟨rfl, hq2.2.2⟩⟩
     | exit id =>
      obtain ⟨k1, k2⟩ := finish w2 V2 G2 st2.objs hV2 hG2 (hs2.trans hs3) hq2.2.1 g6
      exact ⟨hs2.keepsFrom hs3 _, V2, _, _, hV2, k1, k2, hlt2 _ hq2.1, .inr ⟨id, rfl, hq2.2.2⟩⟩
  ·rintro D W hD ⟨V', G', os, g1, g2, g3, g4, g5⟩ hWD
   obtain ⟨q1, q2⟩ := finish W V' G' os g1 g2 g3 (hlt _ _ g4).2 g5
   obtain ⟨k1, k2, k3⟩ := again D W V' _ _ g1 q1 q2 (hlt2 _ (hlt _ _ g4).1) hD hWD
   rw [hvl] at g4
   exact hQ .normal _ _ _ _ _ _ _ _ (hdone os g4) k1 k2 k3
  ·rintro D c W hD ⟨V', G', os, g1, g2, g3, g4, g5⟩ hWD
   obtain ⟨k1, k2, k3⟩ := again D W V' G' os g1 g2 g3 g4 hD hWD
   rcases g5 with ⟨rfl, g5⟩ | ⟨id, rfl, g5⟩
   ·exact wpIn_ret (hQ .ret _ _ _ _ _ _ _ _ g5 k1 k2 k3)
   ·exact wpIn_exit (hQ (.exit id) _ _ _ _ _ _ _ _ g5 k1 k2 k3)
end
/- A function's contract, out of what the abstract machine says of its code. -/
def initL {α : Type} : Nat → List α → List (Nat × α)
 | _, [] => []
 | n, x :: r => (n, x) :: initL (n + 1) r
def upFrom : Nat → Nat → List Nat
 | _, 0 => []
 | k, n + 1 => k :: upFrom (k + 1) n
/-- Where a result is: in a register, or in a variable whose address a register has. -/
inductive RV where
 | tmp (i : Nat)
 | cell (i n : Nat) (ag : Bool)
def resOne (st : St) : RV → Option AV
 | .tmp i => some (st.reg i)
 | .cell i n ag => match st.reg i with
  | .rp c => loadV ag n c
  | .ref k off => match st.ob k with
   | some (.pbox c) => loadV ag n (c.drop off)
   | some (.box c) => loadM ag n (c.drop off)
   | _ => none
  | _ => none
def mapR (st : St) : List RV → Option (List AV)
 | [] => some []
 | i :: r => match resOne st i with
  | some x => (mapR st r).map (x :: ·)
  | none => none
/-- What is to hold where a function ends: its results, and its objects (those that it was given, and those of ek). -/
def afin (nk : Nat) (ri : List RV) (ek : List Nat) (R : List AV → List Ob → Prop) : AEx → St → Prop
 | .exit _, _ => False
 | _, st => ∃ os rs, getObs st (upFrom 0 nk ++ ek) = some os ∧ mapR st ri = some rs ∧ R (renL (idxM 0 (upFrom 0 nk ++ ek)) rs) (mapOb (idxM 0 (upFrom 0 nk ++ ek)) os)
def okRes (P : Program) : List ResultVar → List RV → Bool
 | [], [] => true
 | .tmp t :: r, .tmp i :: l => Nat.beq t i && okRes P r l
 | .cell q t :: r, .cell i n ag :: l => Nat.beq q i && Nat.beq (P.cellsOf t) n && (P.info? t).isSome && (isAggT P t == ag) && (P.underlying t).isSome && okRes P r l
 | _, _ => false
def okFunK (P : Program) (f N nk : Nat) (kp : List Nat) (x : ACode) (ri : List RV) (ek : List Nat) : Bool :=
 match P.funcs[f]? with
 | some fn => fn.name != "runtime.NumGoroutine" && Nat.beq fn.ntmps N && okRes P fn.results.toList ri && keysOk (idxM 0 (upFrom 0 nk ++ ek)) &&
   (upFrom 0 nk).all (memN kp) && (match fn.body with | some c => okc P N kp true c x | none => false)
 | none => false
def okFun (P : Program) (f N nk : Nat) (x : ACode) (ri : List RV) (ek : List Nat) : Bool := okFunK P f N nk (upFrom 0 nk) x ri ek
section
variable {P : Program} {N nk : Nat} {V : View} {G : Ctx} {st : St}
theorem initL_opt {α : Type} : ∀ {l : List α} {n i : Nat}, optA (initL n l) i = if n ≤ i then l[i - n]? else none
 | [], n, i => by simp [initL, optA]
 | x :: r, n, i => by
  simp only [initL, optA]
  cases hb : Nat.beq n i with
  | true =>
   have := Nat.eq_of_beq_eq_true hb
   subst this
   simp
  | false =>
   have hne : n ≠ i := fun e => by rw [e, Nat.beq_refl] at hb; cases hb
   simp only [cond_false]
   rw [initL_opt]
   by_cases h : n ≤ i
   ·rw [if_pos h, if_pos (by omega), show i - n = (i - (n + 1)) + 1 by omega, List.getElem?_cons_succ]
   ·rw [if_neg h, if_neg (by omega)]
theorem getA_opt {α : Type} (d : α) : ∀ {l : List (Nat × α)} {i : Nat}, getA d l i = (optA l i).getD d
 | [], i => rfl
 | (j, x) :: r, i => by
  simp only [getA, optA]
  cases Nat.beq j i
  ·exact getA_opt d
  ·rfl
theorem upFrom_get : ∀ {n k i : Nat}, (upFrom k n)[i]? = if i < n then some (k + i) else none
 | 0, k, i => by simp [upFrom]
 | n + 1, k, 0 => by simp [upFrom]
 | n + 1, k, i + 1 => by
  simp only [upFrom, List.getElem?_cons_succ]
  rw [upFrom_get]
  by_cases h : i < n
  ·rw [if_pos h, if_pos (by omega)]
   congr 1
   omega
  ·rw [if_neg h, if_neg (by omega)]
def resS (tmps : Array Value) : ResultVar → Sem Value
 | .tmp t => pure (tmps.getD t undef)
 | .cell a t => do loadVar t (← asAddr (tmps.getD a undef))
def resV : List Value → Value
 | [v] => v
 | vs => .tuple vs.toArray
theorem res_one {W0 : World} {V0 : View} {Own : Fra} {a : Act} {w : World} {x : AV} (hr : Rel W0 V0 Own N st a w V G) {r : ResultVar} {q : RV} {rs : List ResultVar} {qs : List RV} (hok : okRes P (r :: rs) (q :: qs) = true) (h : resOne st q = some x) :
  ∃ v, (resS a.tmps r).run P w = .ok v w ∧ Rep V G x v := by
 cases r with
 | tmp t =>
  cases q with
  | cell _ _ _ => simp [okRes] at hok
  | tmp i =>
   simp only [okRes, Bool.and_eq_true] at hok
   have := Nat.eq_of_beq_eq_true hok.1
   subst this
   simp only [resOne, Option.some.injEq] at h
   subst h
   exact ⟨_, rfl, hr.regs t⟩
 | cell p t =>
  cases q with
  | tmp _ => simp [okRes] at hok
  | cell i n ag =>
   simp only [okRes, Bool.and_eq_true, beq_iff_eq] at hok
   obtain ⟨⟨⟨⟨⟨h1, h2⟩, hi⟩, hag⟩, hu⟩, _⟩ := hok
   have := Nat.eq_of_beq_eq_true h1
   subst this
   have hn := Nat.eq_of_beq_eq_true h2
   have hx := hr.regs p
   have key : ∀ (b of : Nat) (v : Value), a.tmps.getD p undef = .pointer (some ⟨b, of, none⟩) → (loadVar t ⟨b, of, none⟩).run P w = .ok v w → (resS a.tmps (.cell p t)).run P w = .ok v w := by
    intro b of v hv hl
    simp only [resS, hv, asAddr, Sem.run_bind, Sem.run_pure, Result.andThen_ok, hl]
   simp only [resOne] at h
   split at h
   ·rename_i c he
    rw [he] at hx
    simp only [Rep, RepP] at hx
    obtain ⟨b, of, hv, hrc⟩ := hx
    obtain ⟨us, hp, hq⟩ := hrc.vals
    obtain ⟨val, g1, g2⟩ := run_loadVar_p hn hi hag hu hp (fun j x hx => hr.sat.view _ _ _ (hq j x hx).1) h
    exact ⟨val, key _ _ _ hv g1, g2.rep G⟩
   ·rename_i k of he
    rw [he] at hx
    simp only [Rep] at hx
    obtain ⟨b, hg, hv⟩ := hx
    split at h
    ·rename_i c hm
     obtain ⟨s, hgs, hob⟩ := hr.sat.obs _ _ hm
     rw [hg] at hgs
     cases hgs
     obtain ⟨us, T, hh, hp, _⟩ := hob
     obtain ⟨val, g1, g2⟩ := run_loadVar_p (b := b) (of := of) hn hi hag hu (hp.drop of) (fun j x hx => cell_of hh (by rw [List.getElem?_drop] at hx; exact hx)) h
     exact ⟨val, key _ _ _ hv g1, g2.rep G⟩
    ·rename_i c hm
     obtain ⟨s, hgs, hob⟩ := hr.sat.obs _ _ hm
     rw [hg] at hgs
     cases hgs
     obtain ⟨us, T, hh, hp, _⟩ := hob
     obtain ⟨val, g1, g2⟩ := run_loadVar_m (b := b) (of := of) hn hi hag hu (hp.drop of) (fun j x hx => cell_of hh (by rw [List.getElem?_drop] at hx; exact hx)) h
     exact ⟨val, key _ _ _ hv g1, g2⟩
    ·cases h
   ·cases h
theorem res_all {W0 : World} {V0 : View} {Own : Fra} {a : Act} {w : World} (hr : Rel W0 V0 Own N st a w V G) : ∀ {l : List ResultVar} {ri : List RV} {xs : List AV}, okRes P l ri = true → mapR st ri = some xs → ∃ vs, (l.mapM (resS a.tmps)).run P w = .ok vs w ∧ RepL V G xs vs
 | [], [], xs, _, h => by
  simp only [mapR, Option.some.injEq] at h
  subst h
  exact ⟨[], rfl, by simp [RepL]⟩
 | [], _ :: _, xs, h, _ => by simp [okRes] at h
 | r :: l, [], xs, h, _ => by cases r <;> simp [okRes] at h
 | r :: l, q :: ri, xs, hok, h => by
  simp only [mapR] at h
  split at h
  ·rename_i x hx
   obtain ⟨ys, hy, rfl⟩ := Option.map_eq_some_iff.1 h
   obtain ⟨v, h1, h2⟩ := res_one hr hok hx
   have hok' : okRes P l ri = true := by
    cases r <;> cases q <;> simp only [okRes, Bool.and_eq_true] at hok
    ·exact hok.2
    ·cases hok
    ·cases hok
    ·exact hok.2
   obtain ⟨vs, h3, h4⟩ := res_all hr hok' hy
   refine ⟨v :: vs, ?_, ?_⟩
   ·simp only [List.mapM_cons, Sem.run_bind, h1, Result.andThen_ok, h3, Sem.run_pure]
   ·simp only [RepL]
    exact ⟨v, vs, rfl, h2, h4⟩
  ·cases h
theorem run_results {fn : Func} {tmps : Array Value} {w : World} {vs : List Value} (h : (fn.results.toList.mapM (resS tmps)).run P w = .ok vs w) : (results fn tmps).run P w = .ok (resV vs) w := by
 have he : results fn tmps = (do let vs ← fn.results.mapM (resS tmps); pure (if h : vs.size = 1 then vs[0] else .tuple vs)) := by
  unfold results
  congr 1
 rw [he, Sem.run_bind, Array.mapM_eq_mapM_toList, Sem.run_map, h]
 simp only [Result.andThen_ok]
 match vs with
 | [] => rfl
 | [i] => rfl
 | i :: j :: r => rfl
theorem leaves_marks {fn : Func} {tmps : Array Value} {R : Ending → World → Prop} {B : Nat} : ∀ {ds : List Deferred} {w : World}, (∀ d ∈ ds, ∃ D, d = { target := .collected D, args := #[] } ∧ B ≤ D ∧ w.heap[D]? = some (.deferred (some []))) → ds.Pairwise (· ≠ ·) →
  (∀ w', Quiet B w w' → ∃ v, (results fn tmps).run P w' = .ok v w' ∧ R (.returned v) w') → LeavesInM (FR none) 0 P fn tmps R ds .returning w
 | [], w, h, hd, hR => hR w (.refl _ _)
 | d :: ds, w, h, hd, hR => by
  obtain ⟨D, hdD, hB, hw⟩ := h d (by simp)
  refine ⟨by simp, .inl ⟨D, _, by rw [hdD], run_takeDeferred hw, ?_⟩⟩
  have hq : Quiet B w (w.putObj D (.deferred none)) := Quiet.put _ hB hw rfl
  refine leaves_marks (fun d' hd' => ?_) (List.pairwise_cons.1 hd).2 fun w' hq' => hR w' (hq.trans hq')
  obtain ⟨D', e', hB', hw'⟩ := h d' (by simp [hd'])
  refine ⟨D', e', hB', ?_⟩
  rw [World.putObj_heap_other]
  ·exact hw'
  ·intro e
   have := (List.pairwise_cons.1 hd).1 d' hd'
   rw [hdD, e', e] at this
   exact this rfl
/-! Code that does not ask which objects it was given: all whose names are below B stay. -/
def okPseB (B : Nat) : Pse → Bool
 | .nil _ _ _ _ => true
 | .nilb _ _ _ _ => true
 | .rar _ => true
 | .frz k => decide (B ≤ k)
 | .dynB b => decide (B ≤ b)
 | _ => false
def okcB (P : Program) (N B : Nat) : Code → ACode → Bool
 | c, .pre p x => okPseB B p && okcB P N B c x
 | c, .post x p => okPseB B p && okcB P N B c x
 | c, .alt x y => okcB P N B c x && okcB P N B c y
 | .skip, .skip => true
 | .label _, .lbl _ => true
 | .region _ ops false, .ops l => noDef ops && okTs P N ops ops.toList l
 | .region _ ops true, .draw prec is => noDef ops && okGs P N ops ops.toList (flat is) && grpOk is && precOk ops prec && pairsOk regClash prec 0 [] (flat is) && P.follows .mixedOrders
 | .seq a b, .seq x y => okcB P N B a x && okcB P N B b y
 | .seq a b, .join x y => okcB P N B a x && okcB P N B b y
 | .cond c t e, .cond c' x y => okA c' c && okcB P N B t x && okcB P N B e y
 | .block i b, .block j x => Nat.beq i j && okcB P N B b x
 | .loop b, .loop x => okcB P N B b x
 | .exit i, .exit j => Nat.beq i j
 | .ret, .ret => true
 | .scope b, .scope x => okcB P N B b x
 | _, _ => false
theorem okPseB_ok {B : Nat} {kp : List Nat} (hk : ∀ k ∈ kp, k < B) {p : Pse} (h : okPseB B p = true) : okPse kp p = true := by
 cases p with
 | mv _ _ => simp [okPseB] at h
 | dyn _ => simp [okPseB] at h
 | nil _ _ _ => rfl
 | nilb _ _ _ _ => rfl
 | rar _ => rfl
 | frz k =>
  simp only [okPseB, decide_eq_true_eq] at h
  simp only [okPse]
  cases hm : memN kp k with
  | false => rfl
  | true =>
   have := hk k (memN_iff.1 hm)
   omega
 | dynB b =>
  simp only [okPseB, decide_eq_true_eq] at h
  simp only [okPse, List.all_eq_true, decide_eq_true_eq]
  intro k hm
  have := hk k hm
  omega
theorem okcB_ok {N B : Nat} {kp : List Nat} (hk : ∀ k ∈ kp, k < B) : ∀ {x : ACode} {c : Code}, okcB P N B c x = true → okc P N kp true c x = true := by
 intro x
 induction x with
 | pre p x ih =>
  intro c h
  cases c <;> simp only [okcB, okc, Bool.and_eq_true] at h ⊢ <;> exact ⟨okPseB_ok hk h.1, ih h.2⟩
 | post x p ih =>
  intro c h
  cases c <;> simp only [okcB, okc, Bool.and_eq_true] at h ⊢ <;> exact ⟨okPseB_ok hk h.1, ih h.2⟩
 | alt x y ih1 ih2 =>
  intro c h
  cases c <;> simp only [okcB, okc, Bool.and_eq_true] at h ⊢ <;> exact ⟨ih1 h.1, ih2 h.2⟩
 | seq x y ih1 ih2 =>
  intro c h
  cases c with
  | seq a b =>
   simp only [okcB, okc, Bool.and_eq_true] at h ⊢
   exact ⟨ih1 h.1, ih2 h.2⟩
  | _ => simp [okcB] at h
 | join x y ih1 ih2 =>
  intro c h
  cases c with
  | seq a b =>
   simp only [okcB, okc, Bool.and_eq_true] at h ⊢
   exact ⟨ih1 h.1, ih2 h.2⟩
  | _ => simp [okcB] at h
 | cond q x y ih1 ih2 =>
  intro c h
  cases c with
  | cond a b d =>
   simp only [okcB, okc, Bool.and_eq_true] at h ⊢
   exact ⟨⟨h.1.1, ih1 h.1.2⟩, ih2 h.2⟩
  | _ => simp [okcB] at h
 | block i x ih =>
  intro c h
  cases c with
  | block j b =>
   simp only [okcB, okc, Bool.and_eq_true] at h ⊢
   exact ⟨h.1, ih h.2⟩
  | _ => simp [okcB] at h
 | loop x ih =>
  intro c h
  cases c with
  | loop b =>
   simp only [okcB, okc] at h ⊢
   exact ih h
  | _ => simp [okcB] at h
 | scope x ih =>
  intro c h
  cases c with
  | scope b =>
   simp only [okcB, okc] at h ⊢
   exact ih h
  | _ => simp [okcB] at h
 | rfunc _ _ _ _ _ _ _ _ =>
  intro c h
  cases c <;> simp [okcB] at h
 | ops l =>
  intro c h
  cases c with
  | region r o d => cases d <;> simp only [okcB, okc] at h ⊢ <;> first | exact h | (simp at h)
  | _ => simp [okcB] at h
 | draw p l =>
  intro c h
  cases c with
  | region r o d => cases d <;> simp only [okcB, okc] at h ⊢ <;> first | exact h | (simp at h)
  | _ => simp [okcB] at h
 | skip => intro c h; cases c <;> simp [okcB, okc] at h ⊢
 | lbl _ => intro c h; cases c <;> simp [okcB, okc] at h ⊢
 | exit _ => intro c h; cases c <;> simp [okcB, okc] at h ⊢ <;> exact h
 | ret => intro c h; cases c <;> simp [okcB, okc] at h ⊢
/-- What is to hold where a function ends that is called with all objects. -/
def afinG (ri : List RV) (R : List AV → List (Nat × Ob) → Prop) : AEx → St → Prop
 | .exit _, _ => False
 | _, st => ∃ rs, mapR st ri = some rs ∧ R rs st.objs
def okFunG (P : Program) (f N B : Nat) (x : ACode) (ri : List RV) : Bool :=
 match P.funcs[f]? with
 | some fn => fn.name != "runtime.NumGoroutine" && Nat.beq fn.ntmps N && okRes P fn.results.toList ri && (match fn.body with | some c => okcB P N B c x | none => false)
 | none => false
theorem ctr_ofK {kp : List Nat} {f : Nat} {x : ACode} {ri : List RV} {ek : List Nat} {args : List AV} {obs : List Ob} {R : List AV → List Ob → Prop} (hok : okFunK P f N nk kp x ri ek = true) (hobs : obs.length = nk) (hargs : args.length ≤ N)
  (h : awp P x ⟨initL 0 args, initL 0 obs⟩ (afin nk ri ek R)) : Ctr P f args obs R := by
 unfold okFunK at hok
 split at hok
 ·rename_i fn hfn
  simp only [Bool.and_eq_true] at hok
  obtain ⟨⟨⟨⟨⟨hname, hN⟩, hres⟩, hk⟩, hle0⟩, hbody⟩ := hok
  have hkp : ∀ k, k < nk → k ∈ kp := fun k hk => memN_iff.1 (List.all_eq_true.1 hle0 k (List.mem_of_getElem? (i := k) (by rw [upFrom_get, if_pos hk, Nat.zero_add])))
  split at hbody
  ·rename_i c hc
   have hN := Nat.eq_of_beq_eq_true hN
   refine ⟨by unfold okFn; rw [hfn]; simp only [hc, Option.isSome_some, Bool.true_and]; exact hname, fun V G w vs hs hrep => ?_⟩
   have hvl := hrep.length
   have hdom : ∀ k s, G k = some s → k < nk := by
    intro k s e
    obtain ⟨ob, e'⟩ := hs.dom k s e
    rw [← hobs]
    exact getElem?_lt e'
   refine (callsIn_FR (r := none) (n := 0)).1 (callsIn_of_wp_marks hfn hc trivial ?_)
   have hob : (St.mk (initL 0 args) (initL 0 obs)).ob = fun k => obs[k]? := by
    funext k
    show optA (initL 0 obs) k = _
    rw [initL_opt, if_pos (Nat.zero_le _), Nat.sub_zero]
   have hrel : Rel w V G.owns N ⟨initL 0 args, initL 0 obs⟩ { tmps := vs.toArray ++ Array.replicate (fn.ntmps - vs.toArray.size) undef, defers := [] } w V G := by
    refine ⟨by rw [hob]; exact hs, fun i => ?_, ?_, rfl, Ctx.le_refl _⟩
    ·show Rep V G (getA .dead (initL 0 args) i) _
     rw [getA_opt, initL_opt, if_pos (Nat.zero_le _), Nat.sub_zero]
     cases ha : args[i]? with
     | none => simp only [Option.getD_none, Rep]
     | some x =>
      obtain ⟨v, hv, hx⟩ := hrep.get ha
      have : (vs.toArray ++ Array.replicate (fn.ntmps - vs.toArray.size) undef).getD i undef = v := by
       rw [Array.getD_eq_getD_getElem?, Array.getElem?_append_left (by simpa using getElem?_lt hv)]
       simp [hv]
      rw [this]
      exact hx
    ·simp
     omega
   refine code_sound (kp := kp) (r := none) (top := true) (B0 := w.heap.size) (Own := G.owns) (fun _ => rfl) ?_ ⟨?_, fun k s e => hkp k (hdom k s e), Nat.le_refl _, fun _ d hd => (by cases hd), fun _ => List.Pairwise.nil⟩ hbody h hrel ?_
   ·rintro ⟨a, w, V2, G2, v, res, obs2, _, e, _⟩
    cases e
   ·rintro k b ⟨s, e, _⟩
    exact hkp k (hdom k s e)
   intro ae st' a' w' V' G' W1 V1 Own1 hq henv hlat hr'
   have hsat0 : Sat w V G.owns V' G' w' st'.ob := hlat.1 _ _ _ _ hr'.sat
   have hini : G.le G' := Ctx.le_trans hlat.2 hr'.ini
   have hfin : ∃ os rs, getObs st' (upFrom 0 nk ++ ek) = some os ∧ mapR st' ri = some rs ∧ R (renL (idxM 0 (upFrom 0 nk ++ ek)) rs) (mapOb (idxM 0 (upFrom 0 nk ++ ek)) os) := by
    cases ae with
    | exit id => exact hq.elim
    | normal => exact hq
    | ret => exact hq
   obtain ⟨os, rs, ho, hmr, hR⟩ := hfin
   have hlow : ∀ k, k < nk → optA (idxM 0 (upFrom 0 nk ++ ek)) k = some k := by
    intro k hk'
    rw [← optA_inv hk, idx_get, if_pos (Nat.zero_le _), Nat.sub_zero]
    have hu : (upFrom 0 nk)[k]? = some k := by rw [upFrom_get, if_pos hk', Nat.zero_add]
    rw [List.getElem?_append_left (getElem?_lt hu)]
    exact hu
   have hsat : ∀ w2, Quiet w.heap.size w' w2 → Sat w V G.owns V' (renC (idxM 0 (upFrom 0 nk ++ ek)) G') w2 (fun i => (mapOb (idxM 0 (upFrom 0 nk ++ ek)) os)[i]?) := by
    intro w2 hq2
    have h1 := (hsat0.quiet (Nat.le_refl _) hq2).ren hk (fun k k' b hkk hb => by
     obtain ⟨s, e, hb'⟩ := hb
     rw [hlow k (hdom k s e)] at hkk
     cases hkk
     exact ⟨s, e, hb'⟩)
    have e : (fun i => (mapOb (idxM 0 (upFrom 0 nk ++ ek)) os)[i]?) = renM (idxM 0 (upFrom 0 nk ++ ek)) st'.ob := by
     funext i
     unfold renM
     rw [mapOb_get, getObs_get ho, idx_get, if_pos (Nat.zero_le _), Nat.sub_zero]
     cases (upFrom 0 nk ++ ek)[i]? <;> rfl
    rw [e]
    exact h1
   have hle : G.le (renC (idxM 0 (upFrom 0 nk ++ ek)) G') := by
    intro k s e
    rw [renC_spec hk k k (hlow k (hdom k s e))]
    exact hini k s e
   have post : LeavesInM (FR none) 0 P fn a'.tmps (fun e w' => ∃ V' G' v res obs', R res obs' ∧ e = Ending.returned v ∧ RepRes V' G' res v ∧ G.le G' ∧ Sat w V G.owns V' G' w' (fun k => obs'[k]?)) a'.defers .returning w' := by
    refine leaves_marks (B := w.heap.size) (fun d hd => ?_) (by rw [hr'.defers]; exact henv.dist rfl) fun w2 hq2 => ?_
    ·rw [hr'.defers] at hd
     obtain ⟨D, e, g1, g2, g3, g4⟩ := henv.dfs rfl d hd
     exact ⟨D, e, g1, by rw [hr'.sat.keep.block D g2 g3]; exact g4⟩
    have hr2 : Rel w V ⟨G.owns.own, G.owns.key, G, a'.defers⟩ N st' a' w2 V' G' := ⟨(hsat0.quiet (Nat.le_refl _) hq2).dfs, hr'.regs, hr'.size, rfl, hini⟩
    obtain ⟨vs', hrun, hrl0⟩ := res_all hr2 hres hmr
    have hrl := hrl0.ren (renC_spec hk)
    refine ⟨_, run_results hrun, V', _, _, _, _, hR, rfl, ?_, hle, hsat w2 hq2⟩
    match rs, vs', hrl with
    | [], vs', hrl =>
     simp only [renL, RepL] at hrl
     subst hrl
     exact ⟨[], rfl, by simp [renL, RepL]⟩
    | [x], vs', hrl =>
     simp only [renL, RepL] at hrl
     obtain ⟨v, r, rfl, hx, rfl⟩ := hrl
     exact hx
    | x :: y :: r, vs', hrl =>
     have hl := hrl.length
     match vs', hl with
     | [], hl => simp [renL] at hl
     | [v], hl => simp [renL] at hl
     | v :: u :: t, hl => exact ⟨_, rfl, hrl⟩
   cases ae with
   | exit id => exact hq.elim
   | normal => exact post
   | ret => exact post
  ·cases hbody
 ·cases hok
theorem optA_key {α : Type} : ∀ {l : List (Nat × α)} {k : Nat} {x : α}, optA l k = some x → k ∈ l.map (·.1)
 | [], k, x, h => by cases h
 | (j, v) :: r, k, x, h => by
  simp only [optA] at h
  cases hb : Nat.beq j k with
  | true => rw [Nat.eq_of_beq_eq_true hb]; simp
  | false =>
   rw [hb] at h
   have := optA_key (l := r) h
   simp only [List.map_cons, List.mem_cons]
   exact .inr this
theorem ctr_g {B : Nat} {f : Nat} {x : ACode} {ri : List RV} {args : List AV} {objs : List (Nat × Ob)} {R : List AV → List (Nat × Ob) → Prop} (hok : okFunG P f N B x ri = true) (hB : ∀ k ∈ objs.map (·.1), k < B) (hargs : args.length ≤ N)
  (h : awp P x ⟨initL 0 args, objs⟩ (afinG ri R)) : CtrG P f args objs R := by
 unfold okFunG at hok
 split at hok
 ·rename_i fn hfn
  simp only [Bool.and_eq_true] at hok
  obtain ⟨⟨⟨hname, hN⟩, hres⟩, hbody⟩ := hok
  split at hbody
  ·rename_i c hc
   have hN := Nat.eq_of_beq_eq_true hN
   refine ⟨by unfold okFn; rw [hfn]; simp only [hc, Option.isSome_some, Bool.true_and]; exact hname, fun V G w vs hs hrep => ?_⟩
   have hvl := hrep.length
   have hdom : ∀ k s, G k = some s → k ∈ objs.map (·.1) := by
    intro k s e
    obtain ⟨ob, e'⟩ := hs.dom k s e
    exact optA_key e'
   refine (callsIn_FR (r := none) (n := 0)).1 (callsIn_of_wp_marks hfn hc trivial ?_)
   have hrel : Rel w V G.owns N ⟨initL 0 args, objs⟩ { tmps := vs.toArray ++ Array.replicate (fn.ntmps - vs.toArray.size) undef, defers := [] } w V G := by
    refine ⟨hs, fun i => ?_, ?_, rfl, Ctx.le_refl _⟩
    ·show Rep V G (getA .dead (initL 0 args) i) _
     rw [getA_opt, initL_opt, if_pos (Nat.zero_le _), Nat.sub_zero]
     cases ha : args[i]? with
     | none => simp only [Option.getD_none, Rep]
     | some x =>
      obtain ⟨v, hv, hx⟩ := hrep.get ha
      have : (vs.toArray ++ Array.replicate (fn.ntmps - vs.toArray.size) undef).getD i undef = v := by
       rw [Array.getD_eq_getD_getElem?, Array.getElem?_append_left (by simpa using getElem?_lt hv)]
       simp [hv]
      rw [this]
      exact hx
    ·simp
     omega
   refine code_sound (kp := objs.map (·.1)) (r := none) (top := true) (B0 := w.heap.size) (Own := G.owns) (fun _ => rfl) ?_ ⟨?_, fun k s e => hdom k s e, Nat.le_refl _, fun _ d hd => (by cases hd), fun _ => List.Pairwise.nil⟩ (okcB_ok hB hbody) h hrel ?_
   ·rintro ⟨a, w, V2, G2, v, res, obs2, _, e, _⟩
    cases e
   ·rintro k b ⟨s, e, _⟩
    exact hdom k s e
   intro ae st' a' w' V' G' W1 V1 Own1 hq henv hlat hr'
   have hsat0 : Sat w V G.owns V' G' w' st'.ob := hlat.1 _ _ _ _ hr'.sat
   have hini : G.le G' := Ctx.le_trans hlat.2 hr'.ini
   have hfin : ∃ rs, mapR st' ri = some rs ∧ R rs st'.objs := by
    cases ae with
    | exit id => exact hq.elim
    | normal => exact hq
    | ret => exact hq
   obtain ⟨rs, hmr, hR⟩ := hfin
   have hsat : ∀ w2, Quiet w.heap.size w' w2 → Sat w V G.owns V' G' w2 (optA st'.objs) := fun w2 hq2 => hsat0.quiet (Nat.le_refl _) hq2
   have post : LeavesInM (FR none) 0 P fn a'.tmps (fun e w' => ∃ V' G' v res objs', R res objs' ∧ e = Ending.returned v ∧ RepRes V' G' res v ∧ G.le G' ∧ Sat w V G.owns V' G' w' (optA objs')) a'.defers .returning w' := by
    refine leaves_marks (B := w.heap.size) (fun d hd => ?_) (by rw [hr'.defers]; exact henv.dist rfl) fun w2 hq2 => ?_
    ·rw [hr'.defers] at hd
     obtain ⟨D, e, g1, g2, g3, g4⟩ := henv.dfs rfl d hd
     exact ⟨D, e, g1, by rw [hr'.sat.keep.block D g2 g3]; exact g4⟩
    have hr2 : Rel w V ⟨G.owns.own, G.owns.key, G, a'.defers⟩ N st' a' w2 V' G' := ⟨(hsat0.quiet (Nat.le_refl _) hq2).dfs, hr'.regs, hr'.size, rfl, hini⟩
    obtain ⟨vs', hrun, hrl0⟩ := res_all hr2 hres hmr
    have hrl := hrl0
    refine ⟨_, run_results hrun, V', _, _, _, _, hR, rfl, ?_, hini, hsat w2 hq2⟩
    match rs, vs', hrl with
    | [], vs', hrl =>
     simp only [RepL] at hrl
     subst hrl
     exact ⟨[], rfl, by simp [RepL]⟩
    | [x], vs', hrl =>
     simp only [RepL] at hrl
     obtain ⟨v, r, rfl, hx, rfl⟩ := hrl
     exact hx
    | x :: y :: r, vs', hrl =>
     have hl := hrl.length
     match vs', hl with
     | [], hl => simp at hl
     | [v], hl => simp at hl
     | v :: u :: t, hl => exact ⟨_, rfl, hrl⟩
   cases ae with
   | exit id => exact hq.elim
   | normal => exact post
   | ret => exact post
  ·cases hbody
 ·cases hok
theorem ctr_of {f : Nat} {x : ACode} {ri : List RV} {ek : List Nat} {args : List AV} {obs : List Ob} {R : List AV → List Ob → Prop} (hok : okFun P f N nk x ri ek = true) (hobs : obs.length = nk) (hargs : args.length ≤ N)
  (h : awp P x ⟨initL 0 args, initL 0 obs⟩ (afin nk ri ek R)) : Ctr P f args obs R := ctr_ofK hok hobs hargs h
end
/- What the abstract machine says, in a form that is worked out head first. -/
/-! Waiting: what stands here is not looked into before its head is known. -/
class BxT where p : Prop
class BxE where p : Prop
class BxF (α : Type) where f : α → Prop
class BxG (α β : Type) where f : α → β → Prop
class BxQ where q : AEx → St → Prop
def IfL (b : Bool) [t : BxT] [e : BxE] : Prop := (b = true → t.p) ∧ (b = false → e.p)
def CkL (p : Prop) [k : BxT] : Prop := p ∧ k.p
def OptL {α : Type} (o : Option α) [k : BxF α] : Prop := ∃ m, o = some m ∧ k.f m
def VL {α : Type} (x : α) [k : BxF α] : Prop := k.f x
def VL2 {α β : Type} (x : α) (y : β) [k : BxG α β] : Prop := k.f x y
def ret (res : List AV) : List AV → List Ob → Prop := fun r o => r = res ∧ o = []
def CallL (P : Program) (f : Nat) (args : List AV) [k : BxF (List AV)] : Prop := ∃ res, Ctr P f args [] (ret res) ∧ k.f res
def CallO (P : Program) (f : Nat) (args : List AV) (obs : List Ob) [k : BxG (List AV) (List Ob)] : Prop := ∃ R, Ctr P f args obs R ∧ ∀ res obs', R res obs' → k.f res obs'
def retO (res : List AV) (obs : List Ob) : List AV → List Ob → Prop := fun r o => r = res ∧ o = obs
def CallD (P : Program) (f : Nat) (args : List AV) (obs : List Ob) [k : BxG (List AV) (List Ob)] : Prop := ∃ res obs', Ctr P f args obs (retO res obs') ∧ k.f res obs'
def retG (res : List AV) (objs : List (Nat × Ob)) : List AV → List (Nat × Ob) → Prop := fun r o => r = res ∧ o = objs
def CallG (P : Program) (f : Nat) (args : List AV) (objs : List (Nat × Ob)) [k : BxG (List AV) (List (Nat × Ob))] : Prop := ∃ R, CtrG P f args objs R ∧ ∀ res objs', R res objs' → k.f res objs'
class BxK where f : AV → List (Nat × Ob) → Acc → Prop
/-- A call of which the prover says what is handed on, and what is lent. -/
def CallE (P : Program) (f : Nat) (xs : List AV) (μ : Nat → Option Ob) [k : BxK] : Prop := ∃ pass new ys ks obs res obs', (keysOk (idxM 0 (pass ++ new)) = true ∧ keysOk (idxM 0 pass) = true) ∧ getObsM μ pass = some obs ∧ allNoneM μ new = true ∧
 ArgL μ pass xs ys ks ∧ Ctr P f ys (mapOb (idxM 0 pass) obs) (retO res obs') ∧ (obs'.length = pass.length + new.length ∧ res.all scalX = true ∧ obs'.all scalOb = true) ∧
 k.f (ren (invL (idxM 0 (pass ++ new))) (resA res)) (zipU (pass ++ new) (mapOb (invL (idxM 0 (pass ++ new))) obs')) (ks, pass ++ new)
def AccL (prec : List (List Nat)) (A : List Acc) [k : BxT] : Prop := accsOk prec A = true ∧ k.p
abbrev n0 : Acc := ([], [])
abbrev KO := AV → List (Nat × Ob) → Acc → Prop
def kBool (x : AV) (K : Bool → Prop) : Prop := match x with | .bool b => K b | _ => False
def kInt (x : AV) (K : IntKind → Int → Prop) : Prop := match x with | .int k n => K k n | _ => False
def kStr (x : AV) (K : ByteArray → Prop) : Prop := match x with | .str s => K s | _ => False
def kSome {α : Type} (x : Option α) (K : α → Prop) : Prop := match x with | some x => K x | none => False
def kBin (op : BinOp) (x y : AV) (K : AV → Prop) : Prop := kSome (evBin op x y) K
def kEq (ks : EqK) (x y : AV) (K : Bool → Prop) : Prop := kSome (evEq ks x y) K
def kUn (op : UnOp) (x : AV) (K : AV → Prop) : Prop := kSome (evUn op x) K
def kArr (o : Option Ob) (K : Nat → Nat → List (List AV) → Prop) : Prop := match o with | some (.arr v e xs) => K v e xs | _ => False
def kRar (o : Option Ob) (K : Nat → List AV → Prop) : Prop := match o with | some (.rarr v cs) => K v cs | _ => False
def kNone (o : Option Ob) (K : Prop) : Prop := match o with | none => K | _ => False
def kLen (x : AV) (K : Nat → Prop) : Prop := match x with | .sl xs => K xs.length | .fl xs => K xs.length | .hs _ _ _ n => K n | .bs _ _ n => K n | _ => False
def kIdx (a : AV) (z : Int) (n : Nat) (μ : Nat → Option Ob) (K : KO) : Prop :=
 match a with
 | .sl xs => @CkL (0 ≤ z) ⟨@OptL _ xs[z.toNat]? ⟨fun c => @CkL (c.length = n) ⟨K (.rp c) [] n0⟩⟩⟩
 | .fl xs => @CkL (0 ≤ z) ⟨@OptL _ xs[z.toNat]? ⟨fun c => @CkL (c.length = n) ⟨K (.rp c) [] n0⟩⟩⟩
 | .hs k ver off len => @CkL (0 ≤ z) ⟨@CkL (z < len) ⟨@VL _ (μ k) ⟨fun o => kArr o fun v e xs => @CkL (v = ver ∧ e = n) ⟨K (.er k ver (off + z.toNat) 0) [] ([k], [])⟩⟩⟩⟩
 | .bs k off len => @CkL (0 ≤ z) ⟨@CkL (z < len ∧ n = 1) ⟨K (.ref k (off + z.toNat)) [] n0⟩⟩
 | _ => False
def kLd (n : Nat) (ag : Bool) (c : List AV) (K : AV → Prop) : Prop := @OptL _ (loadV ag n c) ⟨K⟩
def kLoad (a : AV) (n : Nat) (ag : Bool) (μ : Nat → Option Ob) (K : KO) : Prop :=
 match a with
 | .rp c => kLd n ag c fun v => K v [] n0
 | .ref k o => @VL _ (μ k) ⟨fun ob => match ob with
  | some (.pbox c) => kLd n ag (c.drop o) fun v => K v [] ([k], [])
  | some (.box c) => @OptL _ (loadM ag n (c.drop o)) ⟨fun v => K v [] ([k], [])⟩
  | _ => False⟩
 | .er k ver i o => @VL _ (μ k) ⟨fun ob => kArr ob fun v e xs => @CkL (v = ver) ⟨@OptL _ xs[i]? ⟨fun c => kLd n ag (c.drop o) fun v => K v [] ([k], [])⟩⟩⟩
 | _ => False
def okSt (x : AV) (n : Nat) : Bool := isP x && oneAL (cellsOf x) && Nat.beq (cellsOf x).length n
def kStore (a x : AV) (n : Nat) (μ : Nat → Option Ob) (K : KO) : Prop :=
 match a with
 | .ref k o => @VL _ (μ k) ⟨fun ob => match ob with
  | some (.pbox c) => @CkL (okSt x n = true ∧ o + n ≤ c.length) ⟨K .dead [(k, .pbox (setAt c o (cellsOf x)))] ([], [k])⟩
  | some (.box c) => @CkL (cellM x = true ∧ oneAL (cellsOf x) = true ∧ (cellsOf x).length = n ∧ o + n ≤ c.length) ⟨K .dead [(k, .box (setAt c o (cellsOf x)))] ([], [k])⟩
  | _ => False⟩
 | .er k ver i o => @VL _ (μ k) ⟨fun ob => kArr ob fun v e xs => @CkL (v = ver) ⟨@OptL _ xs[i]? ⟨fun c => @CkL (okSt x n = true ∧ o + n ≤ c.length) ⟨K .dead [(k, .arr ver e (xs.set i (setAt c o (cellsOf x))))] ([], [k])⟩⟩⟩⟩
 | _ => False
def kRows (ρ : Arg → AV) (esz : Nat) : List Arg → Bool
 | [] => true
 | r :: l => okSt (ρ r) esz && kRows ρ esz l
def kParts (ρ : Arg → AV) (tot : Nat) : List (Nat × Nat × Arg) → Bool
 | [] => true
 | p :: l => isP (ρ p.2.2) && Nat.beq (cellsOf (ρ p.2.2)).length p.2.1 && decide (p.1 + p.2.1 ≤ tot) && kParts ρ tot l
def kOptI (ρ : Arg → AV) (d : Int) (a : Option Arg) (K : Int → Prop) : Prop :=
 match a with
 | none => K d
 | some a => @VL _ (ρ a) ⟨fun x => kInt x fun _ n => K n⟩
def kSlc (a : AV) (ρ : Arg → AV) (lo hi : Option Arg) (esz : Nat) (μ : Nat → Option Ob) (K : KO) : Prop :=
 match a with
 | .sl xs => kOptI ρ 0 lo fun l => kOptI ρ xs.length hi fun h => @CkL (0 ≤ l ∧ l ≤ h ∧ h ≤ xs.length ∧ ∀ c ∈ xs, c.length = esz) ⟨K (.sl ((xs.take h.toNat).drop l.toNat)) [] n0⟩
 | .fl xs => kOptI ρ 0 lo fun l => kOptI ρ xs.length hi fun h => @CkL (0 ≤ l ∧ l ≤ h ∧ h ≤ xs.length ∧ ∀ c ∈ xs, c.length = esz) ⟨K (.sl ((xs.take h.toNat).drop l.toNat)) [] n0⟩
 | .hs k ver off len => kOptI ρ 0 lo fun l => kOptI ρ len hi fun h => @VL _ (μ k) ⟨fun ob => kArr ob fun v e xs => @CkL (v = ver ∧ e = esz) ⟨@CkL (0 ≤ l ∧ l ≤ h ∧ (h ≤ len ∨ off + h ≤ xs.length)) ⟨K (.hs k ver (off + l.toNat) (h.toNat - l.toNat)) [] ([k], [])⟩⟩⟩
 | _ => False
def kSlc3 (a : AV) (ρ : Arg → AV) (lo : Option Arg) (hi mx : Arg) (esz : Nat) (μ : Nat → Option Ob) (K : KO) : Prop :=
 match a with
 | .sl xs => kOptI ρ 0 lo fun l => kOptI ρ 0 (some hi) fun h => kOptI ρ 0 (some mx) fun m => @CkL (0 ≤ l ∧ l ≤ h ∧ h = m ∧ m ≤ xs.length ∧ ∀ c ∈ xs, c.length = esz) ⟨K (.fl ((xs.take h.toNat).drop l.toNat)) [] n0⟩
 | .fl xs => kOptI ρ 0 lo fun l => kOptI ρ 0 (some hi) fun h => kOptI ρ 0 (some mx) fun m => @CkL (0 ≤ l ∧ l ≤ h ∧ h = m ∧ m ≤ xs.length ∧ ∀ c ∈ xs, c.length = esz) ⟨K (.fl ((xs.take h.toNat).drop l.toNat)) [] n0⟩
 | .hs k ver off len => kOptI ρ 0 lo fun l => kOptI ρ 0 (some hi) fun h => kOptI ρ 0 (some mx) fun m => @VL _ (μ k) ⟨fun ob => kArr ob fun v e xs => @CkL (v = ver) ⟨@CkL (0 ≤ l ∧ l ≤ h ∧ h ≤ m ∧ m ≤ len) ⟨K (bif Nat.beq (off + m.toNat) xs.length && Nat.beq e esz then .hs k ver (off + l.toNat) (h.toNat - l.toNat) else .dead) [] ([k], [])⟩⟩⟩
 | _ => False
def kApp2 (k ver off len esz bytes : Nat) (ys : List (List AV)) (rd : List Nat) (μ : Nat → Option Ob) (K : KO) : Prop :=
 @VL _ (μ k) ⟨fun ob => kArr ob fun v e xs => @CkL (v = ver ∧ e = esz) ⟨@IfL (decide (off + len = xs.length))
  ⟨@CkL (((len + ys.length : Nat) : Int) * bytes ≤ 70368744177664) ⟨K (.hs k (ver + 1) 0 (len + ys.length)) [(k, .arr (ver + 1) esz (xs.drop off ++ ys))] (rd, [k])⟩⟩
  ⟨@CkL (off + len + ys.length ≤ xs.length) ⟨K (.hs k ver off (len + ys.length)) [(k, .arr ver esz (xs.take (off + len) ++ ys ++ xs.drop (off + len + ys.length)))] (rd, [k])⟩⟩⟩⟩
def kApp (a x : AV) (esz bytes : Nat) (μ : Nat → Option Ob) (K : KO) : Prop :=
 match a with
 | .hs k ver off len => match x with
  | .sl ys => @CkL (∀ c ∈ ys, c.length = esz) ⟨kApp2 k ver off len esz bytes ys [] μ K⟩
  | .fl ys => @CkL (∀ c ∈ ys, c.length = esz) ⟨kApp2 k ver off len esz bytes ys [] μ K⟩
  | .hs k2 ver2 off2 len2 => @VL _ (μ k2) ⟨fun ob => kArr ob fun v e xs2 => @CkL (v = ver2 ∧ e = esz) ⟨kApp2 k ver off len esz bytes ((xs2.drop off2).take len2) [k2] μ K⟩⟩
  | _ => False
 | _ => False
def kCal (P : Program) (ρ : Arg → AV) (c : Cal) (K : Nat → List AV → List AV → Prop) : Prop :=
 match c with
 | .st f => K f [] []
 | .dy a => @VL _ (ρ a) ⟨fun x => match x with | .fn f caps => K f [] caps | .mfn f bs => K f bs [] | _ => False⟩
 | .iv a t nm f => @VL _ (ρ a) ⟨fun x => @CkL (ifOk t x = true) ⟨@CkL (MethOk P t nm f) ⟨K f [unif x] []⟩⟩⟩
def kCnd (x : AV) (K : Bool → Prop) : Prop := match x with | .bool b => K b | .anyb => K true ∧ K false | _ => False
def kEqs (neg : Bool) (x : AV) (K : AV → Prop) : Prop := match x with
 | .sl xs => (match xs with | [] => K .anyb | _ :: _ => K (.bool neg))
 | .fl xs => (match xs with | [] => K .anyb | _ :: _ => K (.bool neg))
 | .hs _ _ _ _ => K .anyb
 | _ => False
def kPartsM (ρ : Arg → AV) (tot : Nat) : List (Nat × Nat × Arg) → Bool
 | [] => true
 | p :: l => cellM (ρ p.2.2) && Nat.beq (cellsM (ρ p.2.2)).length p.2.1 && decide (p.1 + p.2.1 ≤ tot) && kPartsM ρ tot l
def kop (P : Program) (o : AOp) (ρ : Arg → AV) (μ : Nat → Option Ob) (K : KO) : Prop :=
 match o with
 | .mov _ a => @VL _ (ρ a) ⟨fun x => K x [] n0⟩
 | .bin _ op a b => @VL2 _ _ (ρ a) (ρ b) ⟨fun x y => kBin op x y fun v => K v [] n0⟩
 | .eq _ neg ks a b => @VL2 _ _ (ρ a) (ρ b) ⟨fun x y => kEq ks x y fun r => K (.bool (bif neg then !r else r)) [] n0⟩
 | .un _ op a => @VL _ (ρ a) ⟨fun x => kUn op x fun v => K v [] n0⟩
 | .conv _ k a => @VL _ (ρ a) ⟨fun x => kInt x fun _ n => K (.int k (k.wrap n)) [] n0⟩
 | .len _ a => @VL _ (ρ a) ⟨fun x => kLen x fun n => K (.int .i64 n) [] n0⟩
 | .slen _ a => @VL _ (ρ a) ⟨fun x => kStr x fun s => K (.int .i64 s.size) [] n0⟩
 | .idx _ a i n => @VL2 _ _ (ρ a) (ρ i) ⟨fun x y => kInt y fun _ z => kIdx x z n μ K⟩
 | .aix _ a i n m => @VL2 _ _ (ρ a) (ρ i) ⟨fun x y => kInt y fun _ z => @CkL (0 ≤ z ∧ z < m) ⟨match x with
  | .rp c => K (.rp (c.drop (z.toNat * n))) [] n0
  | .ref k off => K (.ref k (off + z.toNat * n)) [] n0
  | .er k ver j off => K (.er k ver j (off + z.toNat * n)) [] n0
  | _ => False⟩⟩
 | .fad _ a off => @VL _ (ρ a) ⟨fun x => match x with
  | .rp c => K (.rp (c.drop off)) [] n0
  | .ref k o => K (.ref k (o + off)) [] n0
  | .er k ver i o => K (.er k ver i (o + off)) [] n0
  | _ => False⟩
 | .load _ a n ag => @VL _ (ρ a) ⟨fun x => kLoad x n ag μ K⟩
 | .store a x n => @VL2 _ _ (ρ a) (ρ x) ⟨fun a x => kStore a x n μ K⟩
 | .boxp _ a => @VL _ (ρ a) ⟨fun x => @CkL (isP x = true ∧ oneAL (cellsOf x) = true) ⟨K (.rp (cellsOf x)) [] n0⟩⟩
 | .boxo _ key a => @VL2 _ _ (ρ a) (μ key) ⟨fun x o => kNone o (@CkL (oneA x = true) ⟨K (.ref key 0) [(key, .box [x])] ([], [key])⟩)⟩
 | .boxm _ key a => @VL2 _ _ (ρ a) (μ key) ⟨fun x o => kNone o (@CkL (isP x = true ∧ oneAL (cellsOf x) = true) ⟨K (.ref key 0) [(key, .pbox (cellsOf x))] ([], [key])⟩)⟩
 | .alloc _ key cells => @VL _ (μ key) ⟨fun o => kNone o (K (.ref key 0) [(key, .pbox cells)] ([], [key]))⟩
 | .allocm _ key cells => @VL _ (μ key) ⟨fun o => kNone o (K (.ref key 0) [(key, .box cells)] ([], [key]))⟩
 | .alloca _ key key2 esz => @VL2 _ _ (μ key) (μ key2) ⟨fun o o2 => kNone o (kNone o2 (@CkL (key ≠ key2) ⟨K (.ref key 0) [(key2, .arr 0 esz []), (key, .box [.hs key2 0 0 0])] ([], [key, key2])⟩))⟩
 | .nilarr _ key esz => @VL _ (μ key) ⟨fun o => kNone o (K (.hs key 0 0 0) [(key, .arr 0 esz [])] ([], [key]))⟩
 | .build _ zero parts => @VL2 _ _ (kParts ρ zero.length parts) (fillA ρ parts zero) ⟨fun b cs => @CkL (b = true) ⟨K (.agg cs) [] n0⟩⟩
 | .bslp _ esz rows => @VL2 _ _ (kRows ρ esz rows) (rows.map fun r => cellsOf (ρ r)) ⟨fun b rs => @CkL (b = true) ⟨K (.sl rs) [] n0⟩⟩
 | .bslo _ key esz rows => @VL _ (μ key) ⟨fun o => kNone o (@VL2 _ _ (kRows ρ esz rows) (rows.map fun r => cellsOf (ρ r)) ⟨fun b rs => @CkL (b = true) ⟨K (.hs key 0 0 rows.length) [(key, .arr 0 esz rs)] ([], [key])⟩⟩)⟩
 | .slc _ a lo hi esz => @VL _ (ρ a) ⟨fun x => kSlc x ρ lo hi esz μ K⟩
 | .sslc _ a lo hi => @VL _ (ρ a) ⟨fun x => kStr x fun s => kOptI ρ 0 lo fun l => kOptI ρ s.size hi fun h => @CkL (0 ≤ l ∧ l ≤ h ∧ h ≤ s.size) ⟨K (.str (s.extract l.toNat h.toNat)) [] n0⟩⟩
 | .slc3 _ a lo hi mx esz => @VL _ (ρ a) ⟨fun x => kSlc3 x ρ lo hi mx esz μ K⟩
 | .sidx _ a i => @VL2 _ _ (ρ a) (ρ i) ⟨fun x y => kStr x fun s => kInt y fun _ z => @CkL (0 ≤ z) ⟨@OptL _ s[z.toNat]? ⟨fun b => K (.int .u8 b.toNat) [] n0⟩⟩⟩
 | .mkfn _ f caps => @VL _ (caps.map ρ) ⟨fun cs => K (.fn f cs) [] n0⟩
 | .mkmv _ f bs => @VL _ (bs.map ρ) ⟨fun cs => K (.mfn f cs) [] n0⟩
 | .calle _ c args => kCal P ρ c fun f pre caps => @VL _ (pre ++ args.map ρ ++ caps) ⟨fun xs => @CallE P f xs μ ⟨K⟩⟩
 | .bslr _ key a => @VL2 _ _ (ρ a) (μ key) ⟨fun x o => match x with | .ref k off => kNone o (K (.hs key 0 0 1) [(key, .rarr 0 [.ref k off])] ([], [key])) | _ => False⟩
 | .ridx _ a i => @VL2 _ _ (ρ a) (ρ i) ⟨fun x y => kInt y fun _ z => match x with | .hs k ver off len => @CkL (0 ≤ z ∧ z < len) ⟨@VL _ (μ k) ⟨fun o => kRar o fun v cs => @CkL (v = ver) ⟨K (.er k ver (off + z.toNat) 0) [] ([k], [])⟩⟩⟩ | _ => False⟩
 | .rload _ a => @VL _ (ρ a) ⟨fun x => match x with | .er k ver i o => @CkL (o = 0) ⟨@VL _ (μ k) ⟨fun ob => kRar ob fun v cs => @CkL (v = ver) ⟨@OptL _ cs[i]? ⟨fun c => K c [] ([k], [])⟩⟩⟩⟩ | _ => False⟩
 | .rapp _ a x bytes => @VL2 _ _ (ρ a) (ρ x) ⟨fun y z => match y, z with | .hs k ver off len, .hs k2 ver2 off2 len2 => @VL2 _ _ (μ k) (μ k2) ⟨fun o o2 => kRar o fun v cs => kRar o2 fun v2 cs2 => @CkL ((v = ver ∧ v2 = ver2) ∧ (off2 + len2 ≤ cs2.length ∧ off + len = cs.length) ∧ ((len + len2 : Nat) : Int) * bytes ≤ 70368744177664) ⟨K (.hs k (ver + 1) 0 (len + len2)) [(k, .rarr (ver + 1) (cs.drop off ++ (cs2.drop off2).take len2))] ([k2], [k])⟩⟩ | _, _ => False⟩
 | .vidx _ a i n m ag => @VL2 _ _ (ρ a) (ρ i) ⟨fun x y => kInt y fun _ z => @CkL (0 ≤ z ∧ z < m) ⟨match x with | .agg c => kLd n ag (c.drop (z.toNat * n)) fun v => K v [] n0 | _ => False⟩⟩
 | .ext _ a i => @VL _ (ρ a) ⟨fun x => match x with | .tup xs => @VL _ xs[i]? ⟨fun o => kSome o fun v => K v [] n0⟩ | _ => False⟩
 | .pick _ c a b => @VL _ (ρ c) ⟨fun x => kBool x fun t => @VL _ (bif t then ρ a else ρ b) ⟨fun v => K v [] n0⟩⟩
 | .callf _ c args => kCal P ρ c fun f pre caps => @VL _ (pre ++ args.map ρ ++ caps) ⟨fun xs => @CkL (isPL xs = true) ⟨@CallL P f xs ⟨fun res => K (resA res) [] n0⟩⟩⟩
 | .callb _ c args => kCal P ρ c fun f pre caps => @VL2 _ _ ((pre ++ args.map ρ ++ caps).map (bor μ)) ((pre ++ args.map ρ ++ caps).flatMap (keysA μ)) ⟨fun xs ks => @CkL (isPL xs = true) ⟨@CallL P f xs ⟨fun res => @CkL (res.all scalar = true) ⟨K (resA res) [] (ks, [])⟩⟩⟩⟩
 | .appd _ a x esz bytes => @VL2 _ _ (ρ a) (ρ x) ⟨fun a x => kApp a x esz bytes μ K⟩
 | .clear a zero => @VL _ (ρ a) ⟨fun x => match x with
  | .hs k ver off len => @VL _ (μ k) ⟨fun o => kArr o fun v e xs => @CkL (v = ver ∧ zero.length = e ∧ isPL zero = true ∧ oneAL zero = true) ⟨K .dead [(k, .arr ver e (xs.take off ++ List.replicate len zero ++ xs.drop (off + len)))] ([], [k])⟩⟩
  | _ => False⟩
 | .mxn _ max a b => @VL2 _ _ (ρ a) (ρ b) ⟨fun x y => kInt x fun k x => kInt y fun k' y => @CkL (k = k') ⟨K (.int k (if max then (if y > x then y else x) else (if y < x then y else x))) [] n0⟩⟩
 | .field _ a off n ag => @VL _ (ρ a) ⟨fun x => match x with | .agg c => kLd n ag (c.drop off) fun v => K v [] n0 | _ => False⟩
 | .nilc _ a => @VL _ (ρ a) ⟨fun x => match x with
  | .rp c => K (.rp c) [] n0
  | .ref k o => K (.ref k o) [] n0
  | .er k w i o => K (.er k w i o) [] n0
  | .fn f c => K (.fn f c) [] n0
  | .mfn f c => K (.mfn f c) [] n0
  | _ => False⟩
 | .make _ key esz bytes zero n c => @VL2 _ _ (ρ n) (ρ c) ⟨fun n c => kInt n fun _ z => kInt c fun _ zc => @CkL (z = zc ∧ zero.length = esz) ⟨@CkL (0 ≤ z ∧ z * bytes ≤ 140737488355328) ⟨@VL _ (μ key) ⟨fun o => kNone o (K (.hs key 0 0 z.toNat) [(key, .arr 0 esz (List.replicate z.toNat zero))] ([], [key]))⟩⟩⟩⟩
 | .makeb _ key bytes rows zero n c => @VL2 _ _ (ρ n) (ρ c) ⟨fun n c => kInt n fun _ z => kInt c fun _ zc => @CkL (z = zc) ⟨@CkL (0 ≤ z ∧ z * bytes ≤ 140737488355328) ⟨@VL _ (μ key) ⟨fun o => kNone o (@CkL (mkbOk μ key rows z.toNat) ⟨K (.bs key 0 z.toNat) (mkbO rows z.toNat ++ [(key, .box (mkbC rows zero z.toNat))]) ([], key :: mkbK rows z.toNat)⟩)⟩⟩⟩⟩
 | .buildm _ zero parts => @VL2 _ _ (kPartsM ρ zero.length parts) (fillM ρ parts zero) ⟨fun b cs => @CkL (b = true) ⟨K (.mag cs) [] n0⟩⟩
 | .boxg _ key a => @VL2 _ _ (ρ a) (μ key) ⟨fun x o => kNone o (@CkL (cellM x = true ∧ oneAL (cellsM x) = true) ⟨K (.ref key 0) [(key, .box (cellsM x))] ([], [key])⟩)⟩
 | .mkif _ t a => @VL _ (ρ a) ⟨fun x => @VL _ (bif isP x then .ifc t x else .mif t x) ⟨fun v => K v [] n0⟩⟩
 | .tass _ t a => @VL _ (ρ a) ⟨fun x => match x with | .ifc t' y => @CkL (t' = t) ⟨K (.tup [y, .bool true]) [] n0⟩ | _ => False⟩
 | .eqs _ neg a => @VL _ (ρ a) ⟨fun x => kEqs neg x fun v => K v [] n0⟩
 | .callo _ c args pass new => kCal P ρ c fun f pre caps => @VL2 _ _ (renL (idxM 0 pass) (pre ++ args.map ρ ++ caps)) (getObsM μ pass) ⟨fun xs os => kSome os fun obs => @VL _ (mapOb (idxM 0 pass) obs) ⟨fun obs => @VL _ (allNoneM μ new) ⟨fun t => @CkL (t = true) ⟨@CallD P f xs obs ⟨fun res obs' => obs'.length = pass.length + new.length ∧
   @VL2 _ _ (ren (invL (idxM 0 (pass ++ new))) (resA res)) (zipU (pass ++ new) (mapOb (invL (idxM 0 (pass ++ new))) obs')) ⟨fun v u => K v u ([], pass ++ new)⟩⟩⟩⟩⟩⟩
 | .callx _ c args pass new => kCal P ρ c fun f pre caps => @VL2 _ _ ((pre ++ args.map ρ ++ caps).map (xbor pass μ)) (getObsM μ pass) ⟨fun xs os => kSome os fun obs => @VL2 _ _ (mapOb (idxM 0 pass) obs) ((pre ++ args.map ρ ++ caps).flatMap (keysA (hideM pass μ))) ⟨fun obs ks => @VL _ (allNoneM μ new) ⟨fun t => @CkL (t = true) ⟨@CallD P f xs obs ⟨fun res obs' => obs'.length = pass.length + new.length ∧ @CkL (res.all scalX = true) ⟨@CkL (obs'.all scalOb = true)
   ⟨@VL2 _ _ (ren (invL (idxM 0 (pass ++ new))) (resA res)) (zipU (pass ++ new) (mapOb (invL (idxM 0 (pass ++ new))) obs')) ⟨fun v u => K v u (ks, pass ++ new)⟩⟩⟩⟩⟩⟩⟩⟩
theorem kSome_iff {α : Type} {x : Option α} {K : α → Prop} : kSome x K ↔ ∃ y, x = some y ∧ K y := by
 cases x <;> simp [kSome]
theorem kBool_iff {x : AV} {K : Bool → Prop} : kBool x K ↔ ∃ b, x = .bool b ∧ K b := by
 cases x <;> simp [kBool]
theorem kInt_iff {x : AV} {K : IntKind → Int → Prop} : kInt x K ↔ ∃ k n, x = .int k n ∧ K k n := by
 cases x <;> simp [kInt, and_assoc]
theorem kStr_iff {x : AV} {K : ByteArray → Prop} : kStr x K ↔ ∃ b, x = .str b ∧ K b := by
 cases x <;> simp [kStr]
theorem kNone_iff {o : Option Ob} {K : Prop} : kNone o K ↔ o = none ∧ K := by
 cases o <;> simp [kNone]
theorem kArr_iff {o : Option Ob} {K : Nat → Nat → List (List AV) → Prop} : kArr o K ↔ ∃ v e xs, o = some (.arr v e xs) ∧ K v e xs := by
 cases o with
 | none => simp [kArr]
 | some o => cases o <;> simp [kArr, and_assoc]
theorem kRar_iff {o : Option Ob} {K : Nat → List AV → Prop} : kRar o K ↔ ∃ v cs, o = some (.rarr v cs) ∧ K v cs := by
 cases o with
 | none => simp [kRar]
 | some o => cases o <;> simp [kRar, and_assoc]
theorem kOptI_iff {ρ : Arg → AV} {d : Int} {a : Option Arg} {K : Int → Prop} : kOptI ρ d a K ↔ ∃ n, optI ρ d a = some n ∧ K n := by
 cases a with
 | none => simp [kOptI, optI]
 | some a =>
  simp only [kOptI, optI, VL]
  cases ρ a <;> simp [kInt]
theorem kCal_iff {P : Program} {ρ : Arg → AV} {c : Cal} {K : Nat → List AV → List AV → Prop} : kCal P ρ c K → ∃ f pre caps, callee ρ c = some (f, caps) ∧ calOk P ρ c ∧ (∀ args, calV ρ c args = pre ++ args.map ρ) ∧ K f pre caps := by
 intro h
 cases c with
 | st f => exact ⟨f, [], [], rfl, trivial, fun _ => rfl, h⟩
 | dy a =>
  simp only [kCal, VL] at h
  split at h
  ·rename_i f caps he
   exact ⟨f, [], caps, by simp only [callee, he], trivial, fun _ => by simp only [calV, he, bndA], h⟩
  ·rename_i f bs he
   exact ⟨f, bs, [], by simp only [callee, he], trivial, fun _ => by simp only [calV, he, bndA], h⟩
  ·exact h.elim
 | iv a t nm f =>
  simp only [kCal, VL, CkL] at h
  exact ⟨f, [unif (ρ a)], [], rfl, ⟨h.1, h.2.1⟩, fun _ => rfl, h.2.2⟩
theorem kPartsM_iff {ρ : Arg → AV} {tot : Nat} : ∀ {l : List (Nat × Nat × Arg)}, kPartsM ρ tot l = true ↔ ∀ p ∈ l, cellM (ρ p.2.2) = true ∧ (cellsM (ρ p.2.2)).length = p.2.1 ∧ p.1 + p.2.1 ≤ tot
 | [] => by simp [kPartsM]
 | p :: l => by
  simp only [kPartsM, Bool.and_eq_true, decide_eq_true_eq, kPartsM_iff (l := l), List.forall_mem_cons, Nat.beq_eq, and_assoc]
theorem okSt_iff {x : AV} {n : Nat} : okSt x n = true ↔ isP x = true ∧ oneAL (cellsOf x) = true ∧ (cellsOf x).length = n := by
 simp [okSt, Nat.beq_eq, and_assoc]
theorem kRows_iff {ρ : Arg → AV} {esz : Nat} : ∀ {l : List Arg}, kRows ρ esz l = true ↔ ∀ r ∈ l, isP (ρ r) = true ∧ oneAL (cellsOf (ρ r)) = true ∧ (cellsOf (ρ r)).length = esz
 | [] => by simp [kRows]
 | r :: l => by simp [kRows, okSt_iff, kRows_iff (l := l)]
theorem kParts_iff {ρ : Arg → AV} {tot : Nat} : ∀ {l : List (Nat × Nat × Arg)}, kParts ρ tot l = true ↔ ∀ p ∈ l, isP (ρ p.2.2) = true ∧ (cellsOf (ρ p.2.2)).length = p.2.1 ∧ p.1 + p.2.1 ≤ tot
 | [] => by simp [kParts]
 | p :: l => by
  simp only [kParts, Bool.and_eq_true, decide_eq_true_eq, kParts_iff (l := l), List.forall_mem_cons, Nat.beq_eq, and_assoc]
theorem kop_sound {P : Program} {o : AOp} {ρ : Arg → AV} {μ : Nat → Option Ob} {K : KO} (h : kop P o ρ μ K) : ∃ v u acc, opR P o ρ μ v u acc ∧ K v u acc := by
  cases o with
  | mov d a => exact ⟨_, _, _, ⟨rfl, rfl, rfl⟩, h⟩
  | bin d op a b =>
    simp only [kop, VL2, kBin, kSome_iff] at h
    obtain ⟨v, e, h⟩ := h
    exact ⟨_, _, _, ⟨e, rfl, rfl⟩, h⟩
  | eq d neg ks a b =>
    simp only [kop, VL2, kEq, kSome_iff] at h
    obtain ⟨v, e, h⟩ := h
    exact ⟨_, _, _, ⟨⟨_, e, rfl⟩, rfl, rfl⟩, h⟩
  | un d op a =>
    simp only [kop, VL, kUn, kSome_iff] at h
    obtain ⟨v, e, h⟩ := h
    exact ⟨_, _, _, ⟨e, rfl, rfl⟩, h⟩
  | conv d k a =>
    simp only [kop, VL, kInt_iff] at h
    obtain ⟨k', n, e, h⟩ := h
    exact ⟨_, _, _, ⟨⟨_, _, e, rfl⟩, rfl, rfl⟩, h⟩
  | len d a =>
    simp only [kop, VL] at h
    cases ha : ρ a <;> rw [ha] at h <;> simp only [kLen] at h
    · exact ⟨_, _, _, ⟨.inl ⟨_, ha, rfl⟩, rfl, rfl⟩, h⟩
    · exact ⟨_, _, _, ⟨.inr (.inl ⟨_, ha, rfl⟩), rfl, rfl⟩, h⟩
    · exact ⟨_, _, _, ⟨.inr (.inr (.inl ⟨_, _, _, _, ha, rfl⟩)), rfl, rfl⟩, h⟩
    · exact ⟨_, _, _, ⟨.inr (.inr (.inr ⟨_, _, _, ha, rfl⟩)), rfl, rfl⟩, h⟩
  | slen d a =>
    simp only [kop, VL, kStr_iff] at h
    obtain ⟨s, e, h⟩ := h
    exact ⟨_, _, _, ⟨⟨_, e, rfl⟩, rfl, rfl⟩, h⟩
  | idx d a i n =>
    simp only [kop, VL2, kInt_iff] at h
    obtain ⟨ik, z, hz, h⟩ := h
    cases ha : ρ a <;> rw [ha] at h <;> simp only [kIdx, CkL, OptL, VL, kArr_iff] at h
    · obtain ⟨h0, c, hc, hn, h⟩ := h
      exact ⟨_, _, _, ⟨rfl, _, _, hz, h0, .inl ⟨_, _, .inl ha, hc, hn, rfl, rfl⟩⟩, h⟩
    · obtain ⟨h0, c, hc, hn, h⟩ := h
      exact ⟨_, _, _, ⟨rfl, _, _, hz, h0, .inl ⟨_, _, .inr ha, hc, hn, rfl, rfl⟩⟩, h⟩
    · obtain ⟨h0, hl, v, e, xs, hm, ⟨rfl, rfl⟩, h⟩ := h
      exact ⟨_, _, _, ⟨rfl, _, _, hz, h0, .inr (.inl ⟨_, _, _, _, _, ha, hl, hm, rfl, rfl⟩)⟩, h⟩
    · obtain ⟨h0, ⟨hl, hn⟩, h⟩ := h
      exact ⟨_, _, _, ⟨rfl, _, _, hz, h0, .inr (.inr ⟨_, _, _, ha, hl, hn, rfl, rfl⟩)⟩, h⟩
  | aix d a i n m =>
    simp only [kop, VL2, kInt_iff] at h
    obtain ⟨ik, z, hz, ⟨h0, h1⟩, h⟩ := h
    cases ha : ρ a <;> rw [ha] at h <;> simp only at h
    · exact ⟨_, _, _, ⟨rfl, _, _, hz, h0, h1, rfl, .inl ⟨_, ha, rfl⟩⟩, h⟩
    · exact ⟨_, _, _, ⟨rfl, _, _, hz, h0, h1, rfl, .inr (.inl ⟨_, _, ha, rfl⟩)⟩, h⟩
    · exact ⟨_, _, _, ⟨rfl, _, _, hz, h0, h1, rfl, .inr (.inr ⟨_, _, _, _, ha, rfl⟩)⟩, h⟩
  | fad d a off =>
    simp only [kop, VL] at h
    cases ha : ρ a <;> rw [ha] at h <;> simp only at h
    · exact ⟨_, _, _, ⟨rfl, rfl, .inl ⟨_, ha, rfl⟩⟩, h⟩
    · exact ⟨_, _, _, ⟨rfl, rfl, .inr (.inl ⟨_, _, ha, rfl⟩)⟩, h⟩
    · exact ⟨_, _, _, ⟨rfl, rfl, .inr (.inr ⟨_, _, _, _, ha, rfl⟩)⟩, h⟩
  | load d a n ag =>
    simp only [kop, VL] at h
    cases ha : ρ a <;> rw [ha] at h <;> simp only [kLoad, VL] at h
    · obtain ⟨v, hv, h⟩ := h
      exact ⟨_, _, _, ⟨rfl, .inl ⟨_, ha, hv, rfl⟩⟩, h⟩
    · split at h
      · rename_i c hm
        obtain ⟨v, hv, h⟩ := h
        exact ⟨_, _, _, ⟨rfl, .inr (.inl ⟨_, _, _, ha, hm, hv, rfl⟩)⟩, h⟩
      · rename_i c hm
        obtain ⟨v, hv, h⟩ := h
        exact ⟨_, _, _, ⟨rfl, .inr (.inr (.inl ⟨_, _, _, ha, hm, hv, rfl⟩))⟩, h⟩
      · exact h.elim
    · simp only [kArr_iff] at h
      obtain ⟨v, e, xs, hm, rfl, c, hc, w, hv, h⟩ := h
      exact ⟨_, _, _, ⟨rfl, .inr (.inr (.inr ⟨_, _, _, _, _, _, _, ha, hm, hc, hv, rfl⟩))⟩, h⟩
  | store a x n =>
    simp only [kop, VL2] at h
    cases ha : ρ a <;> rw [ha] at h <;> simp only [kStore, VL] at h
    · split at h
      · rename_i c hm
        obtain ⟨⟨h1, h2⟩, h⟩ := h
        obtain ⟨p1, p2, rfl⟩ := okSt_iff.1 h1
        exact ⟨_, _, _, ⟨rfl, rfl, .inl ⟨_, _, _, ha, hm, p1, p2, h2, rfl, rfl⟩⟩, h⟩
      · rename_i c hm
        obtain ⟨⟨h1, h2, h3, h4⟩, h⟩ := h
        exact ⟨_, _, _, ⟨rfl, h3, .inr (.inl ⟨_, _, _, ha, hm, h1, h2, by omega, rfl, rfl⟩)⟩, h⟩
      · exact h.elim
    · simp only [kArr_iff] at h
      obtain ⟨v, e, xs, hm, rfl, c, hc, ⟨h1, h2⟩, h⟩ := h
      obtain ⟨p1, p2, rfl⟩ := okSt_iff.1 h1
      exact ⟨_, _, _, ⟨rfl, rfl, .inr (.inr ⟨_, _, _, _, _, _, _, ha, hm, hc, p1, p2, h2, rfl, rfl⟩)⟩, h⟩
  | boxp d a =>
    simp only [kop, VL, CkL] at h
    exact ⟨_, _, _, ⟨h.1.1, h.1.2, rfl, rfl, rfl⟩, h.2⟩
  | boxo d key a =>
    simp only [kop, VL2, CkL, kNone_iff] at h
    exact ⟨_, _, _, ⟨h.2.1, h.1, rfl, rfl, rfl⟩, h.2.2⟩
  | boxm d key a =>
    simp only [kop, VL2, CkL, kNone_iff] at h
    exact ⟨_, _, _, ⟨h.2.1.1, h.2.1.2, h.1, rfl, rfl, rfl⟩, h.2.2⟩
  | alloc d key cells =>
    simp only [kop, VL, kNone_iff] at h
    exact ⟨_, _, _, ⟨h.1, rfl, rfl, rfl⟩, h.2⟩
  | allocm d key cells =>
    simp only [kop, VL, kNone_iff] at h
    exact ⟨_, _, _, ⟨h.1, rfl, rfl, rfl⟩, h.2⟩
  | alloca d key key2 esz =>
    simp only [kop, VL2, kNone_iff, CkL] at h
    exact ⟨_, _, _, ⟨h.1, h.2.1, h.2.2.1, rfl, rfl, rfl⟩, h.2.2.2⟩
  | nilarr d key esz =>
    simp only [kop, VL, kNone_iff] at h
    exact ⟨_, _, _, ⟨h.1, rfl, rfl, rfl⟩, h.2⟩
  | build d zero parts =>
    simp only [kop, VL2, CkL] at h
    exact ⟨_, _, _, ⟨kParts_iff.1 h.1, rfl, rfl, rfl⟩, h.2⟩
  | bslp d esz rows =>
    simp only [kop, VL2, CkL] at h
    exact ⟨_, _, _, ⟨kRows_iff.1 h.1, rfl, rfl, rfl⟩, h.2⟩
  | bslo d key esz rows =>
    simp only [kop, VL, VL2, CkL, kNone_iff] at h
    exact ⟨_, _, _, ⟨h.1, kRows_iff.1 h.2.1, rfl, rfl, rfl⟩, h.2.2⟩
  | slc d a lo hi esz =>
    simp only [kop, VL] at h
    cases ha : ρ a <;> rw [ha] at h <;> simp only [kSlc, VL, CkL, kOptI_iff, kArr_iff] at h
    · obtain ⟨l, hl, u, hu, ⟨h1, h2, h3, h4⟩, h⟩ := h
      exact ⟨_, _, _, ⟨rfl, .inl ⟨_, _, _, .inl ha, h4, hl, hu, h1, h2, h3, rfl, rfl⟩⟩, h⟩
    · obtain ⟨l, hl, u, hu, ⟨h1, h2, h3, h4⟩, h⟩ := h
      exact ⟨_, _, _, ⟨rfl, .inl ⟨_, _, _, .inr ha, h4, hl, hu, h1, h2, h3, rfl, rfl⟩⟩, h⟩
    · obtain ⟨l, hl, u, hu, v, e, xs, hm, ⟨rfl, rfl⟩, ⟨h1, h2, h3⟩, h⟩ := h
      exact ⟨_, _, _, ⟨rfl, .inr ⟨_, _, _, _, _, _, _, ha, hm, hl, hu, h1, h2, h3, rfl, rfl⟩⟩, h⟩
  | sslc d a lo hi =>
    simp only [kop, VL, kStr_iff, kOptI_iff, CkL] at h
    obtain ⟨s, hs, l, hl, u, hu, ⟨h1, h2, h3⟩, h⟩ := h
    exact ⟨_, _, _, ⟨rfl, rfl, _, _, _, hs, hl, hu, h1, h2, h3, rfl⟩, h⟩
  | slc3 d a lo hi mx esz =>
    simp only [kop, VL] at h
    cases ha : ρ a <;> rw [ha] at h <;> simp only [kSlc3, CkL, VL, kOptI_iff, kArr_iff] at h
    · obtain ⟨l, hl, u, hu, m, hm, ⟨h1, h2, h3, h4, h5⟩, h⟩ := h
      exact ⟨_, _, _, ⟨rfl, .inl ⟨rfl, _, _, _, _, .inl ha, h5, hl, hu, hm, h1, h2, h3, h4, rfl⟩⟩, h⟩
    · obtain ⟨l, hl, u, hu, m, hm, ⟨h1, h2, h3, h4, h5⟩, h⟩ := h
      exact ⟨_, _, _, ⟨rfl, .inl ⟨rfl, _, _, _, _, .inr ha, h5, hl, hu, hm, h1, h2, h3, h4, rfl⟩⟩, h⟩
    · obtain ⟨l, hl, u, hu, m, hm, v, e, xs, ho, rfl, ⟨h1, h2, h3, h4⟩, h⟩ := h
      exact ⟨_, _, _, ⟨rfl, .inr ⟨_, _, _, _, _, _, _, _, _, ha, ho, hl, hu, hm, h1, h2, h3, h4, rfl, rfl⟩⟩, h⟩
  | sidx d a i =>
    simp only [kop, VL2, kStr_iff, kInt_iff, CkL, OptL] at h
    obtain ⟨s, hs, ik, z, hz, h0, b, hb, h⟩ := h
    exact ⟨_, _, _, ⟨rfl, rfl, _, _, _, _, hs, hz, h0, hb, rfl⟩, h⟩
  | mkfn d f caps => exact ⟨_, _, _, ⟨rfl, rfl, rfl⟩, h⟩
  | ext d a i =>
    simp only [kop, VL] at h
    cases ha : ρ a <;> rw [ha] at h <;> simp only [kSome_iff] at h
    obtain ⟨v, hv, h⟩ := h
    exact ⟨_, _, _, ⟨⟨_, ha, hv⟩, rfl, rfl⟩, h⟩
  | pick d c a b =>
    simp only [kop, VL, kBool_iff] at h
    obtain ⟨t, ht, h⟩ := h
    exact ⟨_, _, _, ⟨⟨_, ht, rfl⟩, rfl, rfl⟩, h⟩
  | callf d c args =>
    simp only [kop] at h
    obtain ⟨f, pre, caps, hc, hco, hv, h⟩ := kCal_iff h
    simp only [VL, CkL, CallL] at h
    obtain ⟨hp, res, hres, h⟩ := h
    rw [← hv] at hp hres
    have hp : isPL (calV ρ c args) = true ∧ isPL caps = true := by
      have key : ∀ l m : List AV, isPL (l ++ m) = true → isPL l = true ∧ isPL m = true := by
        intro l m
        induction l with
        | nil => intro h; exact ⟨rfl, h⟩
        | cons x l ih =>
          intro h
          simp only [List.cons_append, isPL, Bool.and_eq_true] at h ⊢
          exact ⟨⟨h.1, (ih h.2).1⟩, (ih h.2).2⟩
      exact key _ _ hp
    exact ⟨_, _, _, ⟨rfl, rfl, f, caps, res, hc, hco, hp.1, hp.2, hres, rfl⟩, h⟩
  | callb d c args =>
    simp only [kop] at h
    obtain ⟨f, pre, caps, hc, hco, hv, h⟩ := kCal_iff h
    simp only [VL2, CkL, CallL] at h
    rw [← hv] at h
    obtain ⟨hp, res, hres, hs, h⟩ := h
    exact ⟨_, _, _, ⟨rfl, f, caps, res, hc, hco, rfl, hp, hres, hs, rfl⟩, h⟩
  | appd d a x esz bytes =>
    simp only [kop, VL2] at h
    have key : ∀ k ver off len ys rd, kApp2 k ver off len esz bytes ys rd μ K → ∃ xs v u, μ k = some (.arr ver esz xs) ∧ K v u (rd, [k]) ∧
        ((off + len + ys.length ≤ xs.length ∧ v = .hs k ver off (len + ys.length) ∧ u = [(k, .arr ver esz (xs.take (off + len) ++ ys ++ xs.drop (off + len + ys.length)))]) ∨
         (off + len = xs.length ∧ ((len + ys.length : Nat) : Int) * bytes ≤ 70368744177664 ∧ v = .hs k (ver + 1) 0 (len + ys.length) ∧ u = [(k, .arr (ver + 1) esz (xs.drop off ++ ys))])) := by
      intro k ver off len ys rd h
      simp only [kApp2, VL, kArr_iff, CkL, IfL] at h
      obtain ⟨v, e, xs, hm, ⟨rfl, rfl⟩, h1, h2⟩ := h
      by_cases hc : off + len = xs.length
      · obtain ⟨g1, g2⟩ := h1 (by simp [hc])
        exact ⟨_, _, _, hm, g2, .inr ⟨hc, g1, rfl, rfl⟩⟩
      · obtain ⟨g1, g2⟩ := h2 (by simp [hc])
        exact ⟨_, _, _, hm, g2, .inl ⟨g1, rfl, rfl⟩⟩
    cases ha : ρ a <;> rw [ha] at h <;> simp only [kApp] at h
    cases hx : ρ x <;> rw [hx] at h <;> simp only [CkL, VL, kArr_iff] at h
    · obtain ⟨hc, h⟩ := h
      obtain ⟨xs, v, u, hm, hK, hh⟩ := key _ _ _ _ _ _ h
      exact ⟨_, _, _, ⟨_, _, _, _, _, _, _, ha, hm, .inl ⟨.inl hx, hc, rfl⟩, hh, rfl⟩, hK⟩
    · obtain ⟨hc, h⟩ := h
      obtain ⟨xs, v, u, hm, hK, hh⟩ := key _ _ _ _ _ _ h
      exact ⟨_, _, _, ⟨_, _, _, _, _, _, _, ha, hm, .inl ⟨.inr hx, hc, rfl⟩, hh, rfl⟩, hK⟩
    · obtain ⟨v2, e2, xs2, hm2, ⟨rfl, rfl⟩, h⟩ := h
      obtain ⟨xs, v, u, hm, hK, hh⟩ := key _ _ _ _ _ _ h
      exact ⟨_, _, _, ⟨_, _, _, _, _, _, _, ha, hm, .inr ⟨_, _, _, _, _, hx, hm2, rfl, rfl⟩, hh, rfl⟩, hK⟩
  | clear a zero =>
    simp only [kop, VL] at h
    cases ha : ρ a <;> rw [ha] at h <;> simp only [kArr_iff, CkL] at h
    obtain ⟨v, e, xs, hm, ⟨rfl, h1, h2, h3⟩, h⟩ := h
    exact ⟨_, _, _, ⟨rfl, _, _, _, _, _, _, ha, hm, h1, h2, h3, rfl, rfl⟩, h⟩
  | mxn d max a b =>
    simp only [kop, VL2, kInt_iff, CkL] at h
    obtain ⟨k, x, hx, k', y, hy, rfl, h⟩ := h
    exact ⟨_, _, _, ⟨⟨_, _, _, hx, hy, rfl⟩, rfl, rfl⟩, h⟩
  | field d a off n ag =>
    simp only [kop, VL] at h
    cases ha : ρ a <;> rw [ha] at h <;> simp only [kLd, OptL] at h
    obtain ⟨v, hv, h⟩ := h
    exact ⟨_, _, _, ⟨⟨_, ha, hv⟩, rfl, rfl⟩, h⟩
  | nilc d a =>
    simp only [kop, VL] at h
    cases ha : ρ a <;> rw [ha] at h <;> simp only at h
    · exact ⟨_, _, _, ⟨.inl ⟨_, ha⟩, rfl, rfl, rfl⟩, by rw [ha]; exact h⟩
    · exact ⟨_, _, _, ⟨.inr (.inl ⟨_, _, ha⟩), rfl, rfl, rfl⟩, by rw [ha]; exact h⟩
    · exact ⟨_, _, _, ⟨.inr (.inr (.inl ⟨_, _, _, _, ha⟩)), rfl, rfl, rfl⟩, by rw [ha]; exact h⟩
    · exact ⟨_, _, _, ⟨.inr (.inr (.inr (.inl ⟨_, _, ha⟩))), rfl, rfl, rfl⟩, by rw [ha]; exact h⟩
    · exact ⟨_, _, _, ⟨.inr (.inr (.inr (.inr ⟨_, _, ha⟩))), rfl, rfl, rfl⟩, by rw [ha]; exact h⟩
  | make d key esz bytes zero n c =>
    simp only [kop, VL, VL2, kInt_iff, CkL, kNone_iff] at h
    obtain ⟨nk, z, hn, ck, zc, hc, ⟨rfl, h1⟩, ⟨h2, h3⟩, h4, h⟩ := h
    exact ⟨_, _, _, ⟨_, _, _, _, hn, hc, rfl, h2, h3, h1, h4, rfl, rfl, rfl⟩, h⟩
  | makeb d key bytes rows zero n c =>
    simp only [kop, VL, VL2, kInt_iff, CkL, kNone_iff] at h
    obtain ⟨nk, z, hn, ck, zc, hc, rfl, ⟨h2, h3⟩, h4, h5, h⟩ := h
    exact ⟨_, _, _, ⟨_, _, _, _, hn, hc, rfl, h2, h3, h4, h5, rfl, rfl, rfl⟩, h⟩
  | buildm d zero parts =>
    simp only [kop, VL2, CkL] at h
    exact ⟨_, _, _, ⟨kPartsM_iff.1 h.1, rfl, rfl, rfl⟩, h.2⟩
  | boxg d key a =>
    simp only [kop, VL2, CkL, kNone_iff] at h
    exact ⟨_, _, _, ⟨h.2.1.1, h.2.1.2, h.1, rfl, rfl, rfl⟩, h.2.2⟩
  | callo d c args pass new =>
    simp only [kop] at h
    obtain ⟨f, pre, caps, hc, hco, hv, h⟩ := kCal_iff h
    simp only [VL2, VL, kSome_iff, CkL, CallD] at h
    rw [← hv] at h
    obtain ⟨obs, h1, h2, res, obs', h3, h4, h5⟩ := h
    exact ⟨_, _, _, ⟨f, caps, obs, res, obs', hc, hco, h1, h2, h3, h4, rfl, rfl, rfl⟩, h5⟩
  | mkif d t a => exact ⟨_, _, _, ⟨rfl, rfl, rfl⟩, h⟩
  | callx d c args pass new =>
    simp only [kop] at h
    obtain ⟨f, pre, caps, hc, hco, hv, h⟩ := kCal_iff h
    simp only [VL2, VL, kSome_iff, CkL, CallD] at h
    rw [← hv] at h
    obtain ⟨obs, h1, h2, res, obs', h3, h4, h5, h6, h7⟩ := h
    exact ⟨_, _, _, ⟨f, caps, obs, res, obs', hc, hco, h1, h2, h3, h4, h5, h6, rfl, rfl, rfl⟩, h7⟩
  | mkmv d f bs => exact ⟨_, _, _, ⟨rfl, rfl, rfl⟩, h⟩
  | calle d c args =>
    simp only [kop] at h
    obtain ⟨f, pre, caps, h1, hco, hv, h⟩ := kCal_iff h
    simp only [VL, CallE] at h
    rw [← hv] at h
    obtain ⟨pass, new, ys, ks, obs, res, obs', h2, h3, h4, h5, h6, ⟨h7, h8, h9⟩, h10⟩ := h
    exact ⟨_, _, _, ⟨pass, new, ys, ks, f, caps, obs, res, obs', h1, hco, h2, h3, h4, h5, h6, h7, h8, h9, rfl, rfl, rfl⟩, h10⟩
  | bslr d key a =>
    simp only [kop, VL2] at h
    cases ha : ρ a <;> rw [ha] at h <;> simp only [kNone_iff] at h
    exact ⟨_, _, _, ⟨_, _, ha, h.1, rfl, rfl, rfl⟩, h.2⟩
  | ridx d a i =>
    simp only [kop, VL2, kInt_iff] at h
    obtain ⟨ik, z, hz, h⟩ := h
    cases ha : ρ a <;> rw [ha] at h <;> simp only [CkL, VL, kRar_iff] at h
    obtain ⟨⟨h0, hl⟩, v, cs, hm, rfl, h⟩ := h
    exact ⟨_, _, _, ⟨rfl, _, _, _, _, _, _, _, hz, h0, ha, hl, hm, rfl, rfl⟩, h⟩
  | rload d a =>
    simp only [kop, VL] at h
    cases ha : ρ a <;> rw [ha] at h <;> simp only [CkL, VL, kRar_iff, OptL] at h
    obtain ⟨rfl, v, cs, hm, rfl, c, hc, h⟩ := h
    exact ⟨_, _, _, ⟨rfl, _, _, _, _, ha, hm, hc, rfl⟩, h⟩
  | rapp d a x bytes =>
    simp only [kop, VL2] at h
    cases ha : ρ a <;> rw [ha] at h <;> cases hx : ρ x <;> rw [hx] at h <;> simp only [CkL, VL2, kRar_iff] at h
    obtain ⟨v, cs, hm, v2, cs2, hm2, ⟨⟨rfl, rfl⟩, ⟨h1, h2⟩, h3⟩, h⟩ := h
    exact ⟨_, _, _, ⟨_, _, _, _, _, _, _, _, _, _, ha, hm, hx, hm2, h1, h2, h3, rfl, rfl, rfl⟩, h⟩
  | vidx d a i n m ag =>
    simp only [kop, VL2, kInt_iff, CkL] at h
    obtain ⟨ik, z, hz, ⟨h0, h1⟩, h⟩ := h
    cases ha : ρ a <;> rw [ha] at h <;> simp only [kLd, OptL] at h
    obtain ⟨v, hv, h⟩ := h
    exact ⟨_, _, _, ⟨⟨_, _, _, ha, hz, h0, h1, hv⟩, rfl, rfl⟩, h⟩
  | tass d t a =>
    simp only [kop, VL] at h
    cases ha : ρ a <;> rw [ha] at h <;> simp only [CkL] at h
    obtain ⟨rfl, h⟩ := h
    exact ⟨_, _, _, ⟨⟨_, ha, rfl⟩, rfl, rfl⟩, h⟩
  | eqs d neg a =>
    simp only [kop, VL] at h
    cases ha : ρ a <;> rw [ha] at h <;> simp only [kEqs] at h
    · rename_i xs
      cases xs with
      | nil => exact ⟨_, _, _, ⟨.inr (.inl ⟨_, .inl ha, rfl⟩), rfl, rfl⟩, h⟩
      | cons c xs => exact ⟨_, _, _, ⟨.inl ⟨_, _, .inl ha, rfl⟩, rfl, rfl⟩, h⟩
    · rename_i xs
      cases xs with
      | nil => exact ⟨_, _, _, ⟨.inr (.inl ⟨_, .inr ha, rfl⟩), rfl, rfl⟩, h⟩
      | cons c xs => exact ⟨_, _, _, ⟨.inl ⟨_, _, .inr ha, rfl⟩, rfl, rfl⟩, h⟩
    · exact ⟨_, _, _, ⟨.inr (.inr ⟨_, _, _, _, ha, rfl⟩), rfl, rfl⟩, h⟩
/- The abstract machine's code, worked out head first. -/
def kGrd (x : AV) (K : Bool → Prop) (N : Prop) : Prop := match x with | .bool b => K b | .tup [] => N | _ => False
def bseq (P : Program) : List AOp → List Acc → St → (List Acc → St → Prop) → Prop
 | [], A, st, K => K A st
 | o :: l, A, st, K => kop P o st.ev st.ob fun v u acc => bseq P l (acc :: A) ((st.puts u).setO o.dst v) K
def bitems (P : Program) : List Item → List Acc → St → (List Acc → St → Prop) → Prop
 | [], A, st, K => K A st
 | .one o :: r, A, st, K => kop P o st.ev st.ob fun v u acc => bitems P r (acc :: A) ((st.puts u).setO o.dst v) K
 | .grp j want os :: r, A, st, K => @VL _ (st.reg j) ⟨fun x => kGrd x (fun b => @IfL (b == want) ⟨bseq P os A (st.set j (.bool want)) fun A st => bitems P r A st K⟩ ⟨bitems P r (skipA os A) (killD (st.set j (.bool (!want))) os) K⟩) (@VL _ (st.set j (.tup [])) ⟨fun st => bitems P r (skipA os A) (killD st os) K⟩)⟩
def bcall (P : Program) (d : Option Nat) (c : Cal) (args : List Arg) (pass new : List Nat) (st : St) (K : St → Prop) : Prop :=
 kCal P st.ev c fun f pre caps => @VL2 _ _ (renL (idxM 0 pass) (pre ++ args.map st.ev ++ caps)) (getObs st pass) ⟨fun xs os => kSome os fun obs => @VL _ (mapOb (idxM 0 pass) obs) ⟨fun obs => @VL _ (allNone st new) ⟨fun t => @CkL (t = true) ⟨@CallO P f xs obs ⟨fun res obs' => obs'.length = pass.length + new.length ∧ K ((putAll st (pass ++ new) (mapOb (invL (idxM 0 (pass ++ new))) obs')).setO d (ren (invL (idxM 0 (pass ++ new))) (resA res)))⟩⟩⟩⟩⟩
def bcallg (P : Program) (d : Option Nat) (c : Cal) (args : List Arg) (st : St) (K : St → Prop) : Prop :=
 kCal P st.ev c fun f pre caps => @VL2 _ _ (pre ++ args.map st.ev ++ caps) st.objs ⟨fun xs os => @CallG P f xs os ⟨fun res objs' => K ((St.mk st.regs objs').setO d (resA res))⟩⟩
def btext (P : Program) : List TItem → St → (St → Prop) → Prop
 | [], st, K => K st
 | .it i :: r, st, K => bitems P [i] [] st fun _ st' => btext P r st' K
 | .call d c args pass new :: r, st, K => bcall P d c args pass new st fun st' => btext P r st' K
 | .callg d c args :: r, st, K => bcallg P d c args st fun st' => btext P r st' K
def DynB (b : Nat) (st : St) [k : BxF St] : Prop := ∃ st', StpB b st st' ∧ k.f st'
def DynL (ks : List Nat) (st : St) [k : BxF St] : Prop := ∃ st', Stp ks st st' ∧ k.f st'
def bpse (p : Pse) (st : St) (K : St → Prop) : Prop :=
 match p with
 | .mv rs m => @VL _ (st.mv rs m) ⟨K⟩
 | .frz k => @VL _ (st.ob k) ⟨fun o => kSome o fun ob => @CkL (frzOk ob = true) ⟨@VL _ (st.frz k ob) ⟨K⟩⟩⟩
 | .nil r k esz v => @CkL (st.reg r = .yl 0 ∧ st.ob k = none) ⟨@VL _ ((st.put k (.arr v esz [])).set r (.hs k v 0 0)) ⟨K⟩⟩
 | .nilb k o key esz => @VL _ (st.ob k) ⟨fun x => match x with | some (.box cs) => @CkL (cs[o]? = some (.yl 0) ∧ st.ob key = none) ⟨@VL _ ((st.put key (.arr 0 esz [])).put k (.box (cs.set o (.hs key 0 0 0)))) ⟨K⟩⟩ | _ => False⟩
 | .rar k => @VL _ (st.ob k) ⟨fun ob => kArr ob fun v e xs => @CkL (e = 1 ∧ xs = []) ⟨@VL _ (st.put k (.rarr v [])) ⟨K⟩⟩⟩
 | .dyn ks => @DynL ks st ⟨K⟩
 | .dynB b => @DynB b st ⟨K⟩
class BxA where c : ACode
def AltL [t : BxT] [e : BxE] : Prop := t.p ∨ e.p
class BxA2 where c : ACode
def RfuncL (P : Program) (st : St) (lk ks : List Nat) (g : Arg) (ps : List Nat) [a : BxA] [b : BxA2] [Q : BxQ] : Prop := awp P (.rfunc lk ks g ps a.c b.c) st Q.q
def JoinL (P : Program) (st : St) [a : BxA] [b : BxA2] [Q : BxQ] : Prop := awp P (.join a.c b.c) st Q.q
def LoopL (P : Program) (st : St) [b : BxA] [Q : BxQ] : Prop := awp P (.loop b.c) st Q.q
def bwp (P : Program) : ACode → St → (AEx → St → Prop) → Prop
 | .skip, st, Q => Q .normal st
 | .lbl _, st, Q => Q .normal st
 | .ops l, st, Q => btext P l st (Q .normal)
 | .draw prec is, st, Q => bitems P is [] st fun A st' => @AccL prec A.reverse ⟨Q .normal st'⟩
 | .pre p x, st, Q => bpse p st fun st' => bwp P x st' Q
 | .post x p, st, Q => bwp P x st (AEx.then (fun st' => bpse p st' (Q .normal)) Q)
 | .alt x y, st, Q => @AltL ⟨bwp P x st Q⟩ ⟨bwp P y st Q⟩
 | .seq a b, st, Q => bwp P a st (AEx.then (fun st' => bwp P b st' Q) Q)
 | .join a b, st, Q => @JoinL P st ⟨a⟩ ⟨b⟩ ⟨Q⟩
 | .cond c t e, st, Q => @VL _ (st.ev c) ⟨fun x => kCnd x fun b => @IfL b ⟨bwp P t st Q⟩ ⟨bwp P e st Q⟩⟩
 | .block id b, st, Q => bwp P b st (AEx.blk id Q)
 | .loop b, st, Q => @LoopL P st ⟨b⟩ ⟨Q⟩
 | .exit id, st, Q => Q (.exit id) st
 | .ret, st, Q => Q .ret st
 | .scope b, st, Q => bwp P b st Q
 | .rfunc lk ks g ps a b, st, Q => @RfuncL P st lk ks g ps ⟨a⟩ ⟨b⟩ ⟨Q⟩
section
variable {P : Program}
theorem aopA_mono {o : AOp} {st : St} {K K' : St → Acc → Prop} (h : aopA P o st K) (hk : ∀ s a, K s a → K' s a) : aopA P o st K' := by
 obtain ⟨v, u, acc, h1, h2⟩ := h
 exact ⟨v, u, acc, h1, hk _ _ h2⟩
theorem aseq_mono : ∀ {l : List AOp} {A : List Acc} {st : St} {K K' : List Acc → St → Prop}, aseq P l A st K → (∀ A s, K A s → K' A s) → aseq P l A st K'
 | [], A, st, K, K', h, hk => hk _ _ h
 | o :: l, A, st, K, K', h, hk => aopA_mono h fun s a h => aseq_mono h hk
theorem aitems_mono : ∀ {l : List Item} {A : List Acc} {st : St} {K K' : List Acc → St → Prop}, aitems P l A st K → (∀ A s, K A s → K' A s) → aitems P l A st K'
 | [], A, st, K, K', h, hk => hk _ _ h
 | .one o :: l, A, st, K, K', h, hk => aopA_mono h fun s a h => aitems_mono h hk
 | .grp j want os :: l, A, st, K, K', h, hk => by
  obtain ⟨b, x, h0, h1, h2, h3⟩ := h
  exact ⟨b, x, h0, h1, fun e => aseq_mono (h2 e) fun A s h => aitems_mono h hk, fun e => aitems_mono (h3 e) hk⟩
theorem acall_mono {d : Option Nat} {c : Cal} {args : List Arg} {pass new : List Nat} {st : St} {K K' : St → Prop} (h : acall P d c args pass new st K) (hk : ∀ s, K s → K' s) : acall P d c args pass new st K' := by
 obtain ⟨f, caps, obs, R, h1, h0, h2, h3, h4, h5⟩ := h
 exact ⟨f, caps, obs, R, h1, h0, h2, h3, h4, fun res obs' hr => ⟨(h5 res obs' hr).1, hk _ (h5 res obs' hr).2⟩⟩
theorem acallg_mono {d : Option Nat} {c : Cal} {args : List Arg} {st : St} {K K' : St → Prop} (h : acallg P d c args st K) (hk : ∀ s, K s → K' s) : acallg P d c args st K' := by
 obtain ⟨f, caps, R, h1, h0, h4, h5⟩ := h
 exact ⟨f, caps, R, h1, h0, h4, fun res obs' hr => hk _ (h5 res obs' hr)⟩
theorem atext_mono : ∀ {l : List TItem} {st : St} {K K' : St → Prop}, atext P l st K → (∀ s, K s → K' s) → atext P l st K'
 | [], st, K, K', h, hk => hk _ h
 | .it i :: r, st, K, K', h, hk => aitems_mono (l := [i]) h fun A s h => atext_mono h hk
 | .call d c args pass new :: r, st, K, K', h, hk => acall_mono h fun s h => atext_mono h hk
 | .callg d c args :: r, st, K, K', h, hk => acallg_mono h fun s h => atext_mono h hk
theorem apse_mono {p : Pse} {st : St} {K K' : St → Prop} (h : apse p st K) (hk : ∀ s, K s → K' s) : apse p st K' := by
 cases p with
 | nil r k esz v => exact ⟨h.1, hk _ h.2⟩
 | nilb k o key esz =>
  obtain ⟨cs, h1, h2, h3⟩ := h
  exact ⟨cs, h1, h2, hk _ h3⟩
 | rar k =>
  obtain ⟨v, h1, h2⟩ := h
  exact ⟨v, h1, hk _ h2⟩
 | dyn ks =>
  obtain ⟨st', h1, h2⟩ := h
  exact ⟨st', h1, hk _ h2⟩
 | dynB b =>
  obtain ⟨st', h1, h2⟩ := h
  exact ⟨st', h1, hk _ h2⟩
 | mv rs m => exact hk _ h
 | frz k =>
  obtain ⟨ob, h1, h2, h3⟩ := h
  exact ⟨ob, h1, h2, hk _ h3⟩
theorem awp_mono : ∀ {x : ACode} {st : St} {Q Q' : AEx → St → Prop}, awp P x st Q → (∀ e s, Q e s → Q' e s) → awp P x st Q' := by
 intro x
 induction x with
 | skip => intro st Q Q' h hk; exact hk _ _ h
 | lbl l => intro st Q Q' h hk; exact hk _ _ h
 | ops l => intro st Q Q' h hk; exact atext_mono h (hk _)
 | draw prec is => intro st Q Q' h hk; exact aitems_mono h fun A s h => ⟨h.1, hk _ _ h.2⟩
 | pre p x ih => intro st Q Q' h hk; exact apse_mono h fun s h => ih h hk
 | alt x y ihx ihy => intro st Q Q' h hk; exact h.imp (fun h => ihx h hk) (fun h => ihy h hk)
 | post x p ih =>
  intro st Q Q' h hk
  refine ih h fun e s h => ?_
  cases e with
  | normal => exact apse_mono h (hk _)
  | exit id => exact hk _ _ h
  | ret => exact hk _ _ h
 | seq a b iha ihb =>
  intro st Q Q' h hk
  refine iha h fun e s h => ?_
  cases e with
  | normal => exact ihb h hk
  | exit id => exact hk _ _ h
  | ret => exact hk _ _ h
 | join a b iha ihb =>
  intro st Q Q' h hk
  refine iha h fun e s h => ?_
  cases e with
  | normal => exact ihb h hk
  | exit id => exact hk _ _ h
  | ret => exact hk _ _ h
 | cond c t e iht ihe =>
  intro st Q Q' h hk
  obtain ⟨b, hb, h1, h2⟩ := h
  exact ⟨b, hb, fun e => iht (h1 e) hk, fun e => ihe (h2 e) hk⟩
 | block id b ih =>
  intro st Q Q' h hk
  refine ih h fun e s h => ?_
  cases e with
  | normal => exact hk _ _ h
  | exit j =>
   simp only [AEx.blk] at h ⊢
   cases hb : Nat.beq j id <;> rw [hb] at h
   ·exact hk _ _ h
   ·exact hk _ _ h
  | ret => exact hk _ _ h
 | loop b ih =>
  intro st Q Q' h hk
  obtain ⟨I, m, h0, h1⟩ := h
  refine ⟨I, m, h0, fun s hs => ih (h1 s hs) fun e s h => ?_⟩
  cases e with
  | normal => exact h
  | exit id => exact hk _ _ h
  | ret => exact hk _ _ h
 | exit id => intro st Q Q' h hk; exact hk _ _ h
 | ret => intro st Q Q' h hk; exact hk _ _ h
 | scope b ih => intro st Q Q' h hk; exact ih h hk
 | rfunc lk ks g ps a b iha ihb =>
  intro st Q Q' h hk
  obtain ⟨f, pre, caps, xs, I, h1, h2, h3, h4, h5, h6, h7, h8⟩ := h
  refine ⟨f, pre, caps, xs, I, h1, h2, h3, h4, h5, h6, fun k x os hx hI => ?_, fun os hI => hk _ _ (h8 os hI)⟩
  refine iha (h7 k x os hx hI) fun e st1 h => ⟨h.1, h.2.1, ihb h.2.2 fun e st2 h => ?_⟩
  cases e with
  | normal => exact h
  | exit id => exact ⟨h.1, h.2.1, hk _ _ h.2.2⟩
  | ret => exact ⟨h.1, h.2.1, hk _ _ h.2.2⟩
theorem kop_a {o : AOp} {st : St} {K : KO} {K' : St → Acc → Prop} (h : kop P o st.ev st.ob K) (hk : ∀ v u acc, K v u acc → K' ((st.puts u).setO o.dst v) acc) : aopA P o st K' := by
 obtain ⟨v, u, acc, h1, h2⟩ := kop_sound h
 exact ⟨v, u, acc, h1, hk _ _ _ h2⟩
theorem bseq_a : ∀ {l : List AOp} {A : List Acc} {st : St} {K : List Acc → St → Prop}, bseq P l A st K → aseq P l A st K
 | [], A, st, K, h => h
 | o :: l, A, st, K, h => kop_a h fun v u acc h => bseq_a h
theorem bitems_a : ∀ {l : List Item} {A : List Acc} {st : St} {K : List Acc → St → Prop}, bitems P l A st K → aitems P l A st K
 | [], A, st, K, h => h
 | .one o :: l, A, st, K, h => kop_a h fun v u acc h => bitems_a h
 | .grp j want os :: l, A, st, K, h => by
  simp only [bitems, VL] at h
  cases hx : st.reg j <;> rw [hx] at h <;> simp only [kGrd] at h
  case bool b =>
   obtain ⟨h2, h3⟩ := h
   refine ⟨b, .bool b, .inl rfl, hx, fun e => ?_, fun e => ?_⟩
   ·subst e
    exact aseq_mono (bseq_a (h2 (by simp))) fun A s h => bitems_a h
   ·subst e
    exact bitems_a (h3 (by cases want <;> rfl))
  case tup xs =>
   cases xs with
   | nil =>
    refine ⟨!want, .tup [], .inr ⟨rfl, rfl⟩, hx, fun e => ?_, fun e => ?_⟩
    ·cases want <;> cases e
    ·exact bitems_a h
   | cons _ _ => exact h.elim
theorem bcall_a {d : Option Nat} {c : Cal} {args : List Arg} {pass new : List Nat} {st : St} {K : St → Prop} (h : bcall P d c args pass new st K) : acall P d c args pass new st K := by
 simp only [bcall] at h
 obtain ⟨f, pre, caps, h1, hco, hv, h⟩ := kCal_iff h
 simp only [VL2, VL, kSome_iff, CkL, CallO] at h
 rw [← hv] at h
 obtain ⟨obs, h2, h3, R, h4, h5⟩ := h
 exact ⟨f, caps, obs, R, h1, hco, h2, h3, h4, h5⟩
theorem bcallg_a {d : Option Nat} {c : Cal} {args : List Arg} {st : St} {K : St → Prop} (h : bcallg P d c args st K) : acallg P d c args st K := by
 simp only [bcallg] at h
 obtain ⟨f, pre, caps, h1, hco, hv, h⟩ := kCal_iff h
 simp only [VL2, CallG] at h
 rw [← hv] at h
 obtain ⟨R, h4, h5⟩ := h
 exact ⟨f, caps, R, h1, hco, h4, h5⟩
theorem btext_a : ∀ {l : List TItem} {st : St} {K : St → Prop}, btext P l st K → atext P l st K
 | [], st, K, h => h
 | .it i :: r, st, K, h => aitems_mono (l := [i]) (bitems_a h) fun A s h => btext_a h
 | .call d c args pass new :: r, st, K, h => acall_mono (bcall_a h) fun s h => btext_a h
 | .callg d c args :: r, st, K, h => acallg_mono (bcallg_a h) fun s h => btext_a h
theorem bpse_a {p : Pse} {st : St} {K : St → Prop} (h : bpse p st K) : apse p st K := by
 cases p with
 | nil r k esz v => exact ⟨h.1, h.2⟩
 | nilb k o key esz =>
  simp only [bpse, VL] at h
  revert h
  cases hx : st.ob k with
  | none => intro h; exact h.elim
  | some ob =>
   cases ob with
   | box cs =>
    intro h
    exact ⟨cs, hx, h.1, h.2⟩
   | pbox cs => intro h; exact h.elim
   | arr a b c => intro h; exact h.elim
   | rarr a b => intro h; exact h.elim
 | rar k =>
  simp only [bpse, VL, kArr_iff, CkL] at h
  obtain ⟨v, e, xs, h1, ⟨rfl, rfl⟩, h2⟩ := h
  exact ⟨v, h1, h2⟩
 | dyn ks => exact h
 | dynB b => exact h
 | mv rs m => exact h
 | frz k =>
  simp only [bpse, VL, kSome_iff, CkL] at h
  obtain ⟨ob, h1, h2, h3⟩ := h
  exact ⟨ob, h1, h2, h3⟩
theorem bwp_a : ∀ {x : ACode} {st : St} {Q : AEx → St → Prop}, bwp P x st Q → awp P x st Q := by
 intro x
 induction x with
 | skip => intro st Q h; exact h
 | lbl l => intro st Q h; exact h
 | ops l => intro st Q h; exact btext_a h
 | draw prec is => intro st Q h; exact aitems_mono (bitems_a h) fun A s h => h
 | pre p x ih => intro st Q h; exact apse_mono (bpse_a h) fun s h => ih h
 | alt x y ihx ihy => intro st Q h; exact Or.imp (fun h => ihx h) (fun h => ihy h) h
 | post x p ih =>
  intro st Q h
  have h : bwp P x st (AEx.then (fun st' => bpse p st' (Q .normal)) Q) := h
  have g := ih h
  show awp P x st (AEx.then (fun st' => apse p st' (Q .normal)) Q)
  refine awp_mono g fun e s h => ?_
  cases e with
  | normal => exact bpse_a h
  | exit id => exact h
  | ret => exact h
 | seq a b iha ihb =>
  intro st Q h
  have h : bwp P a st (AEx.then (fun st' => bwp P b st' Q) Q) := h
  have g := iha h
  show awp P a st (AEx.then (fun st' => awp P b st' Q) Q)
  refine awp_mono g fun e s h => ?_
  cases e with
  | normal => exact ihb h
  | exit id => exact h
  | ret => exact h
 | join a b iha ihb => intro st Q h; exact h
 | cond c t e iht ihe =>
  intro st Q h
  simp only [bwp, VL] at h
  unfold kCnd at h
  split at h
  ·rename_i b hb
   exact ⟨some b, hb, fun e => iht (h.1 (by cases b <;> simp at e ⊢)), fun e => ihe (h.2 (by cases b <;> simp at e ⊢))⟩
  ·rename_i hb
   exact ⟨none, hb, fun _ => iht (h.1.1 rfl), fun _ => ihe (h.2.2 rfl)⟩
  ·exact h.elim
 | block id b ih => intro st Q h; exact ih h
 | loop b ih => intro st Q h; exact h
 | exit id => intro st Q h; exact h
 | ret => intro st Q h; exact h
 | scope b ih => intro st Q h; exact ih h
 | rfunc lk ks g ps a b iha ihb => intro st Q h; exact h
/-- A loop, at whose head the state is of one form. -/
theorem loopL {σ : Type} {rs : List Nat} {mm : List (Nat × Nat)} {x : ACode} {st : St} {Q : AEx → St → Prop} (S : σ → St) (J : σ → Prop) (m : σ → Nat) (s0 : σ) (hst : st.mv rs mm = S s0) (h0 : J s0)
  (h : ∀ s, J s → bwp P x (S s) (AEx.then (fun st' => ∃ s', st'.mv rs mm = S s' ∧ J s' ∧ m s' < m s) Q)) : @LoopL P st ⟨.pre (.mv rs mm) x⟩ ⟨Q⟩ := by
 classical
 let I : St → Prop := fun st => ∃ s, st.mv rs mm = S s ∧ J s
 let M : St → Nat → Prop := fun st n => ∃ s, st.mv rs mm = S s ∧ J s ∧ m s = n
 have least : ∀ st, I st → ∃ n, M st n ∧ ∀ k, M st k → n ≤ k := by
  intro st hI
  obtain ⟨s, e, j⟩ := hI
  have : ∀ n, (∃ k, k ≤ n ∧ M st k) → ∃ n, M st n ∧ ∀ k, M st k → n ≤ k := by
   intro n
   induction n with
   | zero =>
    rintro ⟨k, hk, hm⟩
    have : k = 0 := by omega
    subst this
    exact ⟨0, hm, fun _ _ => Nat.zero_le _⟩
   | succ n ih =>
    rintro ⟨k, hk, hm⟩
    by_cases hex : ∃ k, k ≤ n ∧ M st k
    ·exact ih hex
    ·refine ⟨k, hm, fun k' hm' => ?_⟩
     have : ¬ k' ≤ n := fun hle => hex ⟨k', hle, hm'⟩
     omega
  exact this (m s) ⟨m s, Nat.le_refl _, s, e, j, rfl⟩
 let mu : St → Nat := fun st => if hI : I st then (least st hI).choose else 0
 show awp P (.loop (.pre (.mv rs mm) x)) st Q
 refine ⟨I, mu, ⟨s0, hst, h0⟩, fun st' hI => ?_⟩
 have hmu : mu st' = (least st' hI).choose := by simp only [mu]; rw [dif_pos hI]
 obtain ⟨⟨s, e, j, hs⟩, hmin⟩ := (least st' hI).choose_spec
 have := bwp_a (h s j)
 refine awp_mono (show awp P (.pre (.mv rs mm) x) st' _ from by show awp P x (st'.mv rs mm) _; rw [e]; exact this) fun ae st2 h => ?_
 cases ae with
 | normal =>
  obtain ⟨s', e', j', hlt⟩ := h
  have hI' : I st2 := ⟨s', e', j'⟩
  refine ⟨hI', ?_⟩
  have h2 : mu st2 = (least st2 hI').choose := by simp only [mu]; rw [dif_pos hI']
  have h3 := (least st2 hI').choose_spec.2 (m s') ⟨s', e', j', rfl⟩
  rw [h2, hmu, ← hs]
  omega
 | exit id => exact h
 | ret => exact h
/-- The same, where the prover forgets what is not wanted. -/
theorem loopD {σ : Type} {ks : List Nat} {x : ACode} {st : St} {Q : AEx → St → Prop} (S : σ → St) (J : σ → Prop) (m : σ → Nat) (s0 : σ) (hst : Stp ks st (S s0)) (h0 : J s0)
  (h : ∀ s, J s → bwp P x (S s) (AEx.then (fun st' => ∃ s', Stp ks st' (S s') ∧ J s' ∧ m s' < m s) Q)) : @LoopL P st ⟨.pre (.dyn ks) x⟩ ⟨Q⟩ := by
 classical
 let I : St → Prop := fun st => ∃ s, Stp ks st (S s) ∧ J s
 let M : St → Nat → Prop := fun st n => ∃ s, Stp ks st (S s) ∧ J s ∧ m s = n
 have least : ∀ st, I st → ∃ n, M st n ∧ ∀ k, M st k → n ≤ k := by
  intro st hI
  obtain ⟨s, e, j⟩ := hI
  have : ∀ n, (∃ k, k ≤ n ∧ M st k) → ∃ n, M st n ∧ ∀ k, M st k → n ≤ k := by
   intro n
   induction n with
   | zero =>
    rintro ⟨k, hk, hm⟩
    have : k = 0 := by omega
    subst this
    exact ⟨0, hm, fun _ _ => Nat.zero_le _⟩
   | succ n ih =>
    rintro ⟨k, hk, hm⟩
    by_cases hex : ∃ k, k ≤ n ∧ M st k
    ·exact ih hex
    ·refine ⟨k, hm, fun k' hm' => ?_⟩
     have : ¬ k' ≤ n := fun hle => hex ⟨k', hle, hm'⟩
     omega
  exact this (m s) ⟨m s, Nat.le_refl _, s, e, j, rfl⟩
 let mu : St → Nat := fun st => if hI : I st then (least st hI).choose else 0
 show awp P (.loop (.pre (.dyn ks) x)) st Q
 refine ⟨I, mu, ⟨s0, hst, h0⟩, fun st' hI => ?_⟩
 have hmu : mu st' = (least st' hI).choose := by simp only [mu]; rw [dif_pos hI]
 obtain ⟨⟨s, e, j, hs⟩, hmin⟩ := (least st' hI).choose_spec
 have := bwp_a (h s j)
 refine awp_mono (show awp P (.pre (.dyn ks) x) st' _ from by exact ⟨_, e, this⟩) fun ae st2 h => ?_
 cases ae with
 | normal =>
  obtain ⟨s', e', j', hlt⟩ := h
  have hI' : I st2 := ⟨s', e', j'⟩
  refine ⟨hI', ?_⟩
  have h2 : mu st2 = (least st2 hI').choose := by simp only [mu]; rw [dif_pos hI']
  have h3 := (least st2 hI').choose_spec.2 (m s') ⟨s', e', j', rfl⟩
  rw [h2, hmu, ← hs]
  omega
 | exit id => exact h
 | ret => exact h
/-- The same, where the prover also renames and freezes. -/
theorem loopB {σ : Type} {b : Nat} {x : ACode} {st : St} {Q : AEx → St → Prop} (S : σ → St) (J : σ → Prop) (m : σ → Nat) (s0 : σ) (hst : StpB b st (S s0)) (h0 : J s0)
  (h : ∀ s, J s → bwp P x (S s) (AEx.then (fun st' => ∃ s', StpB b st' (S s') ∧ J s' ∧ m s' < m s) Q)) : @LoopL P st ⟨.pre (.dynB b) x⟩ ⟨Q⟩ := by
 classical
 let I : St → Prop := fun st => ∃ s, StpB b st (S s) ∧ J s
 let M : St → Nat → Prop := fun st n => ∃ s, StpB b st (S s) ∧ J s ∧ m s = n
 have least : ∀ st, I st → ∃ n, M st n ∧ ∀ k, M st k → n ≤ k := by
  intro st hI
  obtain ⟨s, e, j⟩ := hI
  have : ∀ n, (∃ k, k ≤ n ∧ M st k) → ∃ n, M st n ∧ ∀ k, M st k → n ≤ k := by
   intro n
   induction n with
   | zero =>
    rintro ⟨k, hk, hm⟩
    have : k = 0 := by omega
    subst this
    exact ⟨0, hm, fun _ _ => Nat.zero_le _⟩
   | succ n ih =>
    rintro ⟨k, hk, hm⟩
    by_cases hex : ∃ k, k ≤ n ∧ M st k
    ·exact ih hex
    ·refine ⟨k, hm, fun k' hm' => ?_⟩
     have : ¬ k' ≤ n := fun hle => hex ⟨k', hle, hm'⟩
     omega
  exact this (m s) ⟨m s, Nat.le_refl _, s, e, j, rfl⟩
 let mu : St → Nat := fun st => if hI : I st then (least st hI).choose else 0
 show awp P (.loop (.pre (.dynB b) x)) st Q
 refine ⟨I, mu, ⟨s0, hst, h0⟩, fun st' hI => ?_⟩
 have hmu : mu st' = (least st' hI).choose := by simp only [mu]; rw [dif_pos hI]
 obtain ⟨⟨s, e, j, hs⟩, hmin⟩ := (least st' hI).choose_spec
 have := bwp_a (h s j)
 refine awp_mono (show awp P (.pre (.dynB b) x) st' _ from by exact ⟨_, e, this⟩) fun ae st2 h => ?_
 cases ae with
 | normal =>
  obtain ⟨s', e', j', hlt⟩ := h
  have hI' : I st2 := ⟨s', e', j'⟩
  refine ⟨hI', ?_⟩
  have h2 : mu st2 = (least st2 hI').choose := by simp only [mu]; rw [dif_pos hI']
  have h3 := (least st2 hI').choose_spec.2 (m s') ⟨s', e', j', rfl⟩
  rw [h2, hmu, ← hs]
  omega
 | exit id => exact h
 | ret => exact h
/-- Where ways come together the state is of one form. -/
theorem joinL {σ : Type} {rs : List Nat} {mm : List (Nat × Nat)} {a b : ACode} {st : St} {Q : AEx → St → Prop} (S : σ → St) (J : σ → Prop)
  (h1 : bwp P a st (AEx.then (fun st' => ∃ s, st'.mv rs mm = S s ∧ J s) Q)) (h2 : ∀ s, J s → bwp P b (S s) Q) : @JoinL P st ⟨a⟩ ⟨.pre (.mv rs mm) b⟩ ⟨Q⟩ := by
 show awp P a st (AEx.then (fun st' => awp P (.pre (.mv rs mm) b) st' Q) Q)
 refine awp_mono (bwp_a h1) fun e s h => ?_
 cases e with
 | normal =>
  obtain ⟨s', e', j⟩ := h
  show awp P b (s.mv rs mm) Q
  rw [e']
  exact bwp_a (h2 s' j)
 | exit id => exact h
 | ret => exact h
theorem rangeB {σ : Type} {lk ks : List Nat} {g : Arg} {ps : List Nat} {a b : ACode} {st : St} {Q : AEx → St → Prop} {f : Nat} {pre caps : List AV} {xs : List (List AV)} (hg : (lendV lk st.ob (st.ev g) = .fn f caps ∧ isPL caps = true ∧ pre = []) ∨ (lendV lk st.ob (st.ev g) = .mfn f pre ∧ isPL pre = true ∧ caps = [])) (hi : IterB P f pre caps xs) (hsc : lk = [] ∨ ∀ x ∈ xs, x.all scal1 = true) (hl : ∀ x ∈ xs, x.length = ps.length)
  (S : σ → List (Nat × Ob)) (J : Nat → σ → Prop) (s0 : σ) (hst : hideO lk st.objs = S s0) (h0 : J 0 s0) (hks : ∀ s, objsLt ks (S s) = true ∧ noneO lk (S s) = true)
  (h : ∀ k x s, xs[k]? = some x → J k s → bwp P a (setL ⟨hideR lk st.regs, S s⟩ ps x) fun e st1 => e = .normal ∧ objsLt ks st1.objs = true ∧ bwp P b st1 (AEx.then (fun st2 => ∃ s', st2.objs = S s' ∧ J (k + 1) s') fun e st2 => objsLt ks st2.objs = true ∧ noneO lk st2.objs = true ∧ Q e ⟨st.regs, backO lk st.objs st2.objs⟩))
  (hd : ∀ s, J xs.length s → Q .normal ⟨st.regs, backO lk st.objs (S s)⟩) : @RfuncL P st lk ks g ps ⟨a⟩ ⟨b⟩ ⟨Q⟩ := by
 show awp P (.rfunc lk ks g ps a b) st Q
 refine ⟨f, pre, caps, xs, fun k os => ∃ s, os = S s ∧ J k s, hg, hi, hsc, hl, ⟨s0, hst, h0⟩, ?_, ?_, ?_⟩
 ·rintro k os ⟨s, rfl, _⟩
  exact hks s
 ·rintro k x os hx ⟨s, rfl, hJ⟩
  refine awp_mono (bwp_a (h k x s hx hJ)) fun e st1 h => ⟨h.1, h.2.1, bwp_a h.2.2⟩
 ·rintro os ⟨s, rfl, hJ⟩
  exact hd s hJ
/-- A range over a method value. -/
theorem rangeM {σ : Type} {ks : List Nat} {g : Arg} {ps : List Nat} {a b : ACode} {st : St} {Q : AEx → St → Prop} {f : Nat} {bs : List AV} {xs : List (List AV)} (hg : st.ev g = .mfn f bs) (hp : isPL bs = true) (hi : IterM P f bs xs) (hl : ∀ x ∈ xs, x.length = ps.length)
  (S : σ → List (Nat × Ob)) (J : Nat → σ → Prop) (s0 : σ) (hst : st.objs = S s0) (h0 : J 0 s0) (hks : ∀ s, objsLt ks (S s) = true)
  (h : ∀ k x s, xs[k]? = some x → J k s → bwp P a (setL ⟨st.regs, S s⟩ ps x) fun e st1 => e = .normal ∧ objsLt ks st1.objs = true ∧ bwp P b st1 (AEx.then (fun st2 => ∃ s', st2.objs = S s' ∧ J (k + 1) s') fun e st2 => objsLt ks st2.objs = true ∧ noneO [] st2.objs = true ∧ Q e ⟨st.regs, st2.objs⟩))
  (hd : ∀ s, J xs.length s → Q .normal ⟨st.regs, S s⟩) : @RfuncL P st [] ks g ps ⟨a⟩ ⟨b⟩ ⟨Q⟩ :=
 rangeB (.inr ⟨hg, hp, rfl⟩) hi (.inl rfl) hl S J s0 hst h0 (fun s => ⟨hks s, rfl⟩) h hd
theorem ctr_bG {B : Nat} {f N : Nat} {x : ACode} {ri : List RV} {args : List AV} {objs : List (Nat × Ob)} {R : List AV → List (Nat × Ob) → Prop} (hok : okFunG P f N B x ri = true) (hB : ∀ k ∈ objs.map (·.1), k < B) (hargs : args.length ≤ N)
  (h : bwp P x ⟨initL 0 args, objs⟩ (afinG ri R)) : CtrG P f args objs R := ctr_g hok hB hargs (bwp_a h)
theorem ctr_bK {ks : List Nat} {f N nk : Nat} {x : ACode} {ri : List RV} {ek : List Nat} {args : List AV} {obs : List Ob} {R : List AV → List Ob → Prop} (hok : okFunK P f N nk ks x ri ek = true) (hobs : obs.length = nk) (hargs : args.length ≤ N)
  (h : bwp P x ⟨initL 0 args, initL 0 obs⟩ (afin nk ri ek R)) : Ctr P f args obs R := ctr_ofK hok hobs hargs (bwp_a h)
theorem ctr_b {f N nk : Nat} {x : ACode} {ri : List RV} {ek : List Nat} {args : List AV} {obs : List Ob} {R : List AV → List Ob → Prop} (hok : okFun P f N nk x ri ek = true) (hobs : obs.length = nk) (hargs : args.length ≤ N)
  (h : bwp P x ⟨initL 0 args, initL 0 obs⟩ (afin nk ri ek R)) : Ctr P f args obs R := ctr_of hok hobs hargs (bwp_a h)
end
end Go.AM
