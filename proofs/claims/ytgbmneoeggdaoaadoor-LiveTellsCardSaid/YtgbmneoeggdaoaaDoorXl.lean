/- What is wanted: plain; the search finds it. -/
import Derived.Test.YtgbmneoeggdaoaaDoorXk
namespace Go.Proofs.YtgbmneoeggdaoaaDoor.X
open Go Go.AM Go.Proofs
open Go.Bits
set_option linter.unusedVariables false
set_option linter.unusedSimpArgs false
/-- There is a way from instruction i of block b on which v is taken from ahead of being given to. -/
inductive Wnt (f : Fnc) (S : List (List Nat)) (v : Int) : Nat → Nat → Prop
 | loc {b i : Nat} : scanL v ((blkAt f b).code.drop i) = some true → Wnt f S v b i
 | go {b i s : Nat} : scanL v ((blkAt f b).code.drop i) = none → s ∈ rowAt S b → Wnt f S v s 0 → Wnt f S v b i
section
variable {f : Fnc} {S : List (List Nat)} {v : Int}
theorem goS_sound {P : Nat → Prop} {g : Nat → List Bool → Bool × List Bool} (hg : ∀ s seen, (g s seen).1 = true → P s) : ∀ {l : List Nat} {seen : List Bool}, (goS g l seen).1 = true → ∃ s ∈ l, P s
 | [], seen, h => by cases h
 | s :: l, seen, h => by
  simp only [goS] at h
  split at h
  ·have ⟨t, ht, p⟩ := goS_sound hg h
   exact ⟨t, List.mem_cons_of_mem _ ht, p⟩
  ·split at h
   ·rename_i e
    exact ⟨s, List.mem_cons_self, hg _ _ e⟩
   ·have ⟨t, ht, p⟩ := goS_sound hg h
    exact ⟨t, List.mem_cons_of_mem _ ht, p⟩
theorem srch_sound : ∀ {k b i : Nat} {seen : List Bool}, (srch f S v k b i seen).1 = true → Wnt f S v b i
 | 0, _, _, _, h => by cases h
 | k + 1, b, i, seen, h => by
  simp only [srch] at h
  split at h
  ·rename_i r e
   have : r = true := h
   subst this
   exact .loc e
  ·rename_i e
   have ⟨s, hs, hw⟩ := goS_sound (P := fun s => Wnt f S v s 0) (fun s seen h => srch_sound (k := k) h) h
   exact .go e hs hw
/-- A block from which nothing new is found. -/
def Cl (f : Fnc) (S : List (List Nat)) (v : Int) (b i : Nat) (X : List Bool) : Prop :=
 scanL v ((blkAt f b).code.drop i) ≠ some true ∧ (scanL v ((blkAt f b).code.drop i) = none → ∀ s ∈ rowAt S b, X.getD s false = true)
theorem Cl.mono {b i : Nat} {X Y : List Bool} (h : Cl f S v b i X) (hm : ∀ j : Nat, X.getD j false = true → Y.getD j false = true) : Cl f S v b i Y := ⟨h.1, fun e s hs => hm s (h.2 e s hs)⟩
theorem set_true {seen : List Bool} {s j : Nat} (h : (seen.set s true).getD j false = true) : j = s ∨ seen.getD j false = true := by
 by_cases e : j = s
 ·exact .inl e
 ·right
  rwa [List.getD_eq_getElem?_getD, List.getElem?_set_ne (fun q => e q.symm), ← List.getD_eq_getElem?_getD] at h
theorem goS_close {g : Nat → List Bool → Bool × List Bool} {N m : Nat}
  (hl : ∀ s seen, (g s seen).2.length = seen.length ∧ ∀ j : Nat, seen.getD j false = true → (g s seen).2.getD j false = true)
  (hg : ∀ s seen, s < N → seen.length = N → seen.count false < m → (g s seen).1 = false → Cl f S v s 0 (g s seen).2 ∧ ∀ t : Nat, (g s seen).2.getD t false = true → seen.getD t false = true ∨ Cl f S v t 0 (g s seen).2) :
  ∀ {l : List Nat} {seen : List Bool}, (∀ s ∈ l, s < N) → seen.length = N → seen.count false ≤ m → (goS g l seen).1 = false →
   (∀ s ∈ l, (goS g l seen).2.getD s false = true) ∧ ∀ t : Nat, (goS g l seen).2.getD t false = true → seen.getD t false = true ∨ Cl f S v t 0 (goS g l seen).2
 | [], seen, _, _, _, _ => ⟨(fun s hs => by cases hs), fun t h => .inl h⟩
 | s :: l, seen, hs, hsl, hc, h => by
  have hr := fun t ht => hs t (List.mem_cons_of_mem _ ht)
  have hs0 := hs s List.mem_cons_self
  simp only [goS] at h ⊢
  by_cases c : seen.getD s false = true
  ·rw [if_pos c] at h ⊢
   have ih := goS_close hl hg hr hsl hc h
   have hm := (goS_spec hl (l := l) (seen := seen)).2
   refine ⟨fun t ht => ?_, ih.2⟩
   rcases List.mem_cons.1 ht with rfl | ht
   ·exact hm _ c
   ·exact ih.1 t ht
  ·have c' : seen.getD s false = false := by simpa using c
   rw [if_neg c] at h ⊢
   have hct := set_count (s := s) (by omega) c'
   have hsetl : (seen.set s true).length = N := by rw [List.length_set]; exact hsl
   by_cases c2 : (g s (seen.set s true)).1 = true
   ·rw [if_pos c2] at h
    cases h
   ·rw [if_neg c2] at h ⊢
    have c2' : (g s (seen.set s true)).1 = false := by simpa using c2
    have h1 := hg s (seen.set s true) hs0 hsetl (by omega) c2'
    have h1l := hl s (seen.set s true)
    have hct2 := (zer_le (a := seen.set s true) (b := (g s (seen.set s true)).2) h1l.1.symm h1l.2).1
    generalize (g s (seen.set s true)).2 = sn at h h1 h1l hct2 ⊢
    have ih := goS_close hl hg hr (h1l.1.trans hsetl) (by omega) h
    have hm := (goS_spec hl (l := l) (seen := sn)).2
    have hsself : (seen.set s true).getD s false = true := by rw [List.getD_eq_getElem?_getD, List.getElem?_set_self (by omega)]; rfl
    refine ⟨fun t ht => ?_, fun t ht => ?_⟩
    ·rcases List.mem_cons.1 ht with rfl | ht
     ·exact hm _ (h1l.2 _ hsself)
     ·exact ih.1 t ht
    ·rcases ih.2 t ht with h2 | h2
     ·rcases h1.2 t h2 with h3 | h3
      ·rcases set_true h3 with e | h3
       ·right
        rw [e]
        exact h1.1.mono hm
       ·exact .inl h3
      ·exact .inr (h3.mono hm)
     ·exact .inr h2
theorem srch_close (hI : LvIn f S) : ∀ {k b i : Nat} {seen : List Bool}, b < f.blocks.length → seen.length = f.blocks.length → seen.count false < k → (srch f S v k b i seen).1 = false →
  Cl f S v b i (srch f S v k b i seen).2 ∧ ∀ t : Nat, (srch f S v k b i seen).2.getD t false = true → seen.getD t false = true ∨ Cl f S v t 0 (srch f S v k b i seen).2
 | 0, _, _, _, _, _, hc, _ => absurd hc (Nat.not_lt_zero _)
 | k + 1, b, i, seen, hb, hl, hc, h => by
  cases e : scanL v ((blkAt f b).code.drop i) with
  | some r =>
   simp only [srch, e] at h ⊢
   subst h
   exact ⟨⟨by rw [e]; decide, fun h => by rw [e] at h; cases h⟩, fun t ht => .inl ht⟩
  | none =>
   simp only [srch, e] at h ⊢
   have := goS_close (f := f) (S := S) (v := v) (g := fun s seen => srch f S v k s 0 seen) (N := f.blocks.length) (m := k) (fun s seen => srch_spec) (fun s seen h1 h2 h3 h4 => srch_close hI h1 h2 h3 h4) (rowAt_lt hI hb) hl (by omega) h
   exact ⟨⟨by rw [e]; decide, fun _ => this.1⟩, this.2⟩
theorem Cl.no {X : List Bool} (hX : ∀ t : Nat, X.getD t false = true → Cl f S v t 0 X) {b i : Nat} (h : Wnt f S v b i) : ¬ Cl f S v b i X := by
 induction h with
 | loc e => exact fun hc => hc.1 e
 | go e hs _ ih => exact fun hc => ih (hX _ (hc.2 e _ hs))
theorem want_iff (hI : LvIn f S) {b i : Nat} (hb : b < f.blocks.length) : wantB f S b i v = true ↔ knownF f v = true ∧ Wnt f S v b i := by
 unfold wantB
 rw [Bool.and_eq_true]
 refine and_congr_right fun _ => ⟨srch_sound, fun hw => ?_⟩
 refine Decidable.byContradiction fun hn => ?_
 have hn : (srch f S v (f.blocks.length + 1) b i (List.replicate f.blocks.length false)).1 = false := by simpa using hn
 have hz : ∀ t : Nat, (List.replicate f.blocks.length false).getD t false = true → False := fun t h => by
  rw [List.getD_eq_getElem?_getD, List.getElem?_replicate] at h
  split at h <;> cases h
 have := srch_close hI hb (by simp) (by simp) hn
 exact Cl.no (fun t ht => (this.2 t ht).resolve_left (hz t)) hw this.1
end
/- live.New finds what is wanted: plain. -/
theorem addS_get {s : List Bool} {p : Int} {j : Nat} (hj : j < s.length) : (addS s p).getD j false = (decide (p = (j : Int)) || s.getD j false) := by
 unfold addS
 by_cases c : inB s p = true
 ·rw [if_pos c]
  have hb := of_decide_eq_true c
  rw [List.getD_eq_getElem?_getD, List.getElem?_set]
  by_cases e : p = (j : Int)
  ·rw [if_pos (by omega), if_pos (by omega), decide_eq_true e]
   rfl
  ·rw [if_neg (by omega), decide_eq_false e, ← List.getD_eq_getElem?_getD]
   rfl
 ·rw [if_neg c]
  have hb : ¬ (0 ≤ p ∧ p < s.length) := fun h => c (decide_eq_true h)
  rw [decide_eq_false (by omega)]
  rfl
theorem dropS_get {s : List Bool} {p : Int} {j : Nat} (hj : j < s.length) : (dropS s p).getD j false = (!decide (p = (j : Int)) && s.getD j false) := by
 unfold dropS
 by_cases c : inB s p = true
 ·rw [if_pos c]
  have hb := of_decide_eq_true c
  rw [List.getD_eq_getElem?_getD, List.getElem?_set]
  by_cases e : p = (j : Int)
  ·rw [if_pos (by omega), if_pos (by omega), decide_eq_true e]
   rfl
  ·rw [if_neg (by omega), decide_eq_false e, ← List.getD_eq_getElem?_getD]
   rfl
 ·rw [if_neg c]
  have hb : ¬ (0 ≤ p ∧ p < s.length) := fun h => c (decide_eq_true h)
  rw [decide_eq_false (by omega)]
  rfl
section
variable {u : List Int} {k : Nat} {v : Int}
theorem getD_of {u : List Int} {i : Nat} (h : i < u.length) : u.getD i 0 = u[i] := by rw [List.getD_eq_getElem?_getD, List.getElem?_eq_getElem h]; rfl
theorem place_self (hu : u.Pairwise (· < ·)) (hk : u[k]? = some v) : placeL u v = (k : Int) := by
 have ⟨hlt, e⟩ := List.getElem?_eq_some_iff.1 hk
 have hl : lbI u v = k := by
  refine lbI_eq (by omega) (fun i hi => ?_) (fun i hi hil => ?_)
  ·rw [getD_of (by omega), ← e]
   exact List.pairwise_iff_getElem.1 hu i k (by omega) hlt hi
  ·rw [getD_of hil, ← e]
   by_cases c : i = k
   ·subst c; exact Int.le_refl _
   ·exact Int.le_of_lt (List.pairwise_iff_getElem.1 hu k i hlt hil (by omega))
 unfold placeL foundI
 rw [hl, getD_of hlt, e, decide_eq_true hlt]
 simp
theorem place_of {x : Int} (hp : placeL u x = (k : Int)) (hk : u[k]? = some v) : x = v := by
 have ⟨hlt, e⟩ := List.getElem?_eq_some_iff.1 hk
 unfold placeL at hp
 by_cases c : foundI u x = true
 ·rw [if_pos c] at hp
  have hl : lbI u x = k := by omega
  unfold foundI at c
  rw [hl, getD_of hlt, e, Bool.and_eq_true] at c
  exact (eq_of_beq c.2).symm
 ·rw [if_neg c] at hp
  omega
theorem place_iff (hu : u.Pairwise (· < ·)) (hk : u[k]? = some v) {x : Int} : (placeL u x = (k : Int)) ↔ x = v := ⟨fun h => place_of h hk, fun h => by rw [h]; exact place_self hu hk⟩
theorem place_none {x : Int} (h : x ∉ u) : placeL u x = -1 := by
 unfold placeL
 by_cases c : foundI u x = true
 ·exfalso
  unfold foundI at c
  rw [Bool.and_eq_true] at c
  have hlt := of_decide_eq_true c.1
  rw [getD_of hlt] at c
  have : u[lbI u x] = x := by simpa using c.2
  exact h (this ▸ List.getElem_mem hlt)
 ·rw [if_neg c]
theorem ahead_get (hu : u.Pairwise (· < ·)) (hk : u[k]? = some v) {x : Ins} {s : List Bool} (hs : s.length = u.length) : (aheadS u x s).getD k false = if takesX x v = true then true else if givesX x v = true then false else s.getD k false := by
 have hlt := (List.getElem?_eq_some_iff.1 hk).1
 have h1 : ∀ (l : List Opd) (t : List Bool), t.length = u.length → (l.foldl (argS u) t).getD k false = ((l.any fun a => decide (a.kind = 1) && decide (a.n = v)) || t.getD k false) := by
  intro l
  induction l with
  | nil => intro t _; rfl
  | cons a l ih =>
   intro t ht
   rw [List.foldl_cons, ih _ (by rw [argS_len]; exact ht), List.any_cons]
   have : (argS u t a).getD k false = ((decide (a.kind = 1) && decide (a.n = v)) || t.getD k false) := by
    unfold argS
    by_cases c : a.kind = 1
    ·rw [if_pos c, addS_get (by omega), decide_eq_true c, Bool.true_and]
     congr 1
     exact decide_eq_decide.2 (place_iff hu hk)
    ·rw [if_neg c, decide_eq_false c]
     rfl
   rw [this]
   cases (decide (a.kind = 1) && decide (a.n = v)) <;> cases (l.any fun a => decide (a.kind = 1) && decide (a.n = v)) <;> rfl
 have h2 : (dstS u x s).getD k false = (!givesX x v && s.getD k false) := by
  unfold dstS givesX
  by_cases c : x.dst.kind = 1
  ·rw [if_pos c, dropS_get (by omega), decide_eq_true c, Bool.true_and]
   congr 2
   exact decide_eq_decide.2 (place_iff hu hk)
  ·rw [if_neg c, decide_eq_false c]
   rfl
 unfold aheadS
 rw [h1 _ _ (by rw [dstS_len]; exact hs), h2]
 have : (x.args.any fun a => decide (a.kind = 1) && decide (a.n = v)) = takesX x v := rfl
 rw [this]
 cases takesX x v <;> cases givesX x v <;> simp
theorem back_get (hu : u.Pairwise (· < ·)) (hk : u[k]? = some v) {s : List Bool} (hs : s.length = u.length) : ∀ {l : List Ins}, (backS u l s).getD k false = match scanL v l with
  | some r => r
  | none => s.getD k false
 | [] => rfl
 | x :: l => by
  have ih := back_get hu hk hs (l := l)
  have e : backS u (x :: l) s = aheadS u x (backS u l s) := rfl
  rw [e, ahead_get hu hk (by rw [backS_len]; exact hs), ih, scanL]
  by_cases c : takesX x v = true
  ·rw [if_pos c, if_pos c]
  ·rw [if_neg c, if_neg c]
   by_cases c2 : givesX x v = true
   ·rw [if_pos c2, if_pos c2]
   ·rw [if_neg c2, if_neg c2]
end
section
variable {f : Fnc} {S : List (List Nat)} {u : List Int}
/-- All that is told is wanted. -/
def SndL (f : Fnc) (S : List (List Nat)) (u : List Int) (L : List (List Bool × List Bool)) : Prop :=
 ∀ b, b < f.blocks.length → ∀ (k : Nat) v, u[k]? = some v → ((insAt L b).getD k false = true → Wnt f S v b 0) ∧ ((outAt L b).getD k false = true → ∃ s ∈ rowAt S b, Wnt f S v s 0)
theorem Wnt.of_back (hu : u.Pairwise (· < ·)) {k : Nat} {v : Int} (hk : u[k]? = some v) {b i : Nat} {s : List Bool} (hs : s.length = u.length) (ho : s.getD k false = true → ∃ t ∈ rowAt S b, Wnt f S v t 0)
  (h : (backS u ((blkAt f b).code.drop i) s).getD k false = true) : Wnt f S v b i := by
 rw [back_get hu hk hs] at h
 cases e : scanL v ((blkAt f b).code.drop i) with
 | some r =>
  rw [e] at h
  have : r = true := h
  subst this
  exact .loc e
 | none =>
  rw [e] at h
  have ⟨t, ht, hw⟩ := ho h
  exact .go e ht hw
theorem step_snd (hu : u.Pairwise (· < ·)) (hI : LvIn f S) (L : List (List Bool × List Bool)) (b : Nat) (hL : LvL f u L) (hb : b < f.blocks.length) (h : SndL f S u L) : SndL f S u (stepL u (blkAt f b) (rowAt S b) L b) := by
 have hbL : b < L.length := by rw [hL.len]; exact hb
 have hout : ∀ (k : Nat) v, u[k]? = some v → (outK L (rowAt S b) b).getD k false = true → ∃ s ∈ rowAt S b, Wnt f S v s 0 := by
  intro k v hk ho
  rcases outK_iff ho with ho | ⟨s, hs, hi⟩
  ·exact (h b hb k v hk).2 ho
  ·exact ⟨s, hs, (h s (rowAt_lt hI hb s hs) k v hk).1 hi⟩
 intro c hc k v hk
 unfold stepL
 rw [insAt_set hbL, outAt_set hbL]
 by_cases e : c = b
 ·rw [if_pos e, if_pos e, e]
  refine ⟨fun hi => ?_, hout k v hk⟩
  unfold inN at hi
  rcases orS_iff hi with hi | hi
  ·exact (h b hb k v hk).1 hi
  ·exact Wnt.of_back hu hk (i := 0) (outK_len hL hb) (hout k v hk) (by rw [List.drop_zero]; exact hi)
 ·rw [if_neg e, if_neg e]
  exact h c hc k v hk
theorem Wnt.back (hu : u.Pairwise (· < ·)) (hI : LvIn f S) {L : List (List Bool × List Bool)} (hL : LvL f u L) (hC : Closed u f S L) {k : Nat} {v : Int} (hk : u[k]? = some v) {b i : Nat} (hw : Wnt f S v b i) (hb : b < f.blocks.length) : (backS u ((blkAt f b).code.drop i) (outAt L b)).getD k false = true := by
 induction hw with
 | loc e => rw [back_get hu hk (outAt_len hL hb), e]
 | go e hs _ ih =>
  rw [back_get hu hk (outAt_len hL hb), e]
  have hsb := rowAt_lt hI hb _ hs
  have := ih hsb
  rw [List.drop_zero] at this
  exact hC.out _ hb _ hs _ (hC.ins _ hsb _ this)
end
/-- The sets that live.New ends with. -/
theorem lastL_ok {f : Fnc} (h : NewOk f) : LvL f (idsU f) (lastL f) ∧ SndL f (succF f.blocks) (idsU f) (lastL f) ∧ Closed (idsU f) f (succF f.blocks) (lastL f) := by
 have hE0 : LvL f (idsU f) (emptyL f) := ⟨by rw [emptyL, List.length_replicate], fun x hx => by
  have := List.eq_of_mem_replicate hx
  rw [this]
  exact ⟨noneB_len, noneB_len⟩⟩
 have hS0 : SndL f (succF f.blocks) (idsU f) (emptyL f) := by
  intro b hb k v hk
  have hn : ∀ m : Nat, (noneB m).getD k false = true → False := fun m h => by
   unfold noneB at h
   rw [List.getD_eq_getElem?_getD, List.getElem?_replicate] at h
   split at h <;> cases h
  have hg : (emptyL f).getD b ([], []) = (noneB (idsU f).length, noneB (idsU f).length) := by
   rw [emptyL, List.getD_eq_getElem?_getD, List.getElem?_replicate, if_pos hb]
   rfl
  unfold insAt outAt
  rw [hg]
  exact ⟨fun h => (hn _ h).elim, fun h => (hn _ h).elim⟩
 exact finL_spec h.inn (Q := SndL f (succF f.blocks) (idsU f)) (fun L b hL hb hQ => step_snd (idsU_lt f) h.inn L b hL hb hQ) hE0 hS0 (Nat.lt_succ_self _)
section
variable {f : Fnc} {k : Nat} {v : Int} {b : Nat}
theorem back_iff (h : NewOk f) (hk : (idsU f)[k]? = some v) (hb : b < f.blocks.length) {i : Nat} : (backS (idsU f) ((blkAt f b).code.drop i) (outAt (lastL f) b)).getD k false = true ↔ Wnt f (succF f.blocks) v b i := by
 have ⟨h1, h2, h3⟩ := lastL_ok h
 exact ⟨fun hB => Wnt.of_back (idsU_lt f) hk (outAt_len h1 hb) (h2 b hb k v hk).2 hB, fun hw => hw.back (idsU_lt f) h.inn h1 h3 hk hb⟩
theorem ins_iff (h : NewOk f) (hk : (idsU f)[k]? = some v) (hb : b < f.blocks.length) : (insAt (lastL f) b).getD k false = true ↔ Wnt f (succF f.blocks) v b 0 := by
 have ⟨h1, h2, h3⟩ := lastL_ok h
 refine ⟨(h2 b hb k v hk).1, fun hw => ?_⟩
 have := (back_iff h hk hb (i := 0)).2 hw
 rw [List.drop_zero] at this
 exact h3.ins b hb k this
theorem out_iff (h : NewOk f) (hk : (idsU f)[k]? = some v) (hb : b < f.blocks.length) {i : Nat} (hi : (blkAt f b).code.length ≤ i) : (outAt (lastL f) b).getD k false = true ↔ Wnt f (succF f.blocks) v b i := by
 rw [← back_iff h hk hb, List.drop_eq_nil_of_le hi]
 rfl
end
theorem LvOk.of {f : Fnc} (h : NewOk f) : LvOk f (idsU f) ((lastL f).map (·.1)) ((lastL f).map (·.2)) := by
 have ⟨h1, _, _⟩ := lastL_ok h
 refine ⟨h.pt, idsU_srt, ?_, by rw [List.length_map, h1.len], by rw [List.length_map, h1.len], ?_, ?_, fun B hB => (h.inn.code B hB).2, fun B hB => (h.inn.code B hB).1⟩
 ·have : (idsU f).length ≤ (idsR f).length := by
   have := cpt_len (l := (idsR f).mergeSort leI)
   rw [List.length_mergeSort] at this
   exact this
  have h2 : (idsR f).length = f.regs.length := by simp [idsR]
  have := h.rl
  omega
 ·intro s hs
  have ⟨x, hx, e⟩ := List.mem_map.1 hs
  rw [← e]
  exact (h1.all x hx).1
 ·intro s hs
  have ⟨x, hx, e⟩ := List.mem_map.1 hs
  rw [← e]
  exact (h1.all x hx).2
/- What live answers is what is wanted: plain. -/
theorem mem_ones {s : List Bool} {k : Nat} : k ∈ ones s ↔ s.getD k false = true := by
 unfold ones
 rw [List.mem_filter, List.mem_range]
 refine ⟨fun h => h.2, fun h => ⟨?_, h⟩⟩
 refine Decidable.byContradiction fun hn => ?_
 rw [List.getD_eq_getElem?_getD, List.getElem?_eq_none (by omega)] at h
 cases h
theorem mem_listL {u : List Int} {s : List Bool} (hs : s.length = u.length) {x : Int} : x ∈ listL u s ↔ ∃ k : Nat, s.getD k false = true ∧ u[k]? = some x := by
 unfold listL
 rw [List.mem_map]
 constructor
 ·rintro ⟨k, hk, e⟩
  have hlt := ones_lt hk
  exact ⟨k, mem_ones.1 hk, by rw [← e, getD_of (by omega)]; exact List.getElem?_eq_getElem (by omega)⟩
 ·rintro ⟨k, hk, e⟩
  exact ⟨k, mem_ones.2 hk, by rw [List.getD_eq_getElem?_getD, e]; rfl⟩
theorem listL_lt {u : List Int} {s : List Bool} (hu : u.Pairwise (· < ·)) (hs : s.length = u.length) : (listL u s).Pairwise (· < ·) := by
 unfold listL
 have h1 : (ones s).Pairwise (· < ·) := by
  unfold ones
  exact List.Pairwise.filter _ List.pairwise_lt_range
 refine List.pairwise_map.2 (h1.imp_of_mem fun {a b} ha hb hab => ?_)
 have h2 := ones_lt ha
 have h3 := ones_lt hb
 rw [getD_of (by omega), getD_of (by omega)]
 exact List.pairwise_iff_getElem.1 hu a b (by omega) (by omega) hab
theorem mem_at {u : List Int} {s : List Bool} (hu : u.Pairwise (· < ·)) (hs : s.length = u.length) {k : Nat} {v : Int} (hk : u[k]? = some v) : v ∈ listL u s ↔ s.getD k false = true := by
 rw [mem_listL hs]
 constructor
 ·rintro ⟨j, hj, e⟩
  have h1 := place_self hu hk
  have h2 := place_self hu e
  rw [h1] at h2
  rw [show k = j by omega]
  exact hj
 ·exact fun h => ⟨k, h, hk⟩
theorem has_at {u : List Int} {s : List Bool} (hu : u.Pairwise (· < ·)) (hs : s.length = u.length) {v : Int} : hasB s (placeL u v) = true ↔ v ∈ listL u s := by
 by_cases hv : v ∈ u
 ·have ⟨k, hk⟩ := List.mem_iff_getElem?.1 hv
  rw [mem_at hu hs hk, place_self hu hk, hasB, Int.toNat_natCast, decide_eq_true (by omega), Bool.true_and]
 ·rw [place_none hv]
  refine ⟨(fun h => by cases h), fun h => ?_⟩
  have ⟨k, _, e⟩ := (mem_listL hs).1 h
  exact absurd (List.mem_of_getElem? e) hv
theorem known_iff {f : Fnc} {v : Int} : knownF f v = true ↔ v ∈ idsU f := by
 rw [idsU_mem, knownF, List.any_eq_true]
 constructor
 ·rintro ⟨g, hg, e⟩
  exact ⟨g, hg, of_decide_eq_true e⟩
 ·rintro ⟨g, hg, e⟩
  exact ⟨g, hg, decide_eq_true e⟩
section
variable {f : Fnc}
theorem outs_get (f : Fnc) (b : Nat) : ((lastL f).map (·.2)).getD b [] = outAt (lastL f) b := by
 unfold outAt
 rw [List.getD_eq_getElem?_getD, List.getD_eq_getElem?_getD, List.getElem?_map]
 cases (lastL f)[b]? <;> rfl
theorem def_get {u : List Int} (hu : u.Pairwise (· < ·)) {k : Nat} {v : Int} (hk : u[k]? = some v) {x : Ins} {s : List Bool} (hs : s.length = u.length) : (defS u x s).getD k false = (givesX x v || s.getD k false) := by
 have hlt := (List.getElem?_eq_some_iff.1 hk).1
 unfold defS givesX
 by_cases c : x.dst.kind = 1
 ·rw [if_pos c, addS_get (by omega), decide_eq_true c, Bool.true_and]
  congr 1
  exact decide_eq_decide.2 (place_iff hu hk)
 ·rw [if_neg c, decide_eq_false c]
  rfl
theorem dst_get {u : List Int} (hu : u.Pairwise (· < ·)) {k : Nat} {v : Int} (hk : u[k]? = some v) {x : Ins} {s : List Bool} (hs : s.length = u.length) : (dstS u x s).getD k false = (!givesX x v && s.getD k false) := by
 have hlt := (List.getElem?_eq_some_iff.1 hk).1
 unfold dstS givesX
 by_cases c : x.dst.kind = 1
 ·rw [if_pos c, dropS_get (by omega), decide_eq_true c, Bool.true_and]
  congr 2
  exact decide_eq_decide.2 (place_iff hu hk)
 ·rw [if_neg c, decide_eq_false c]
  rfl
theorem atS_eq (b i : Nat) (o : Bool) : atS f (idsU f) ((lastL f).map (·.2)) b i o = if o = true then defS (idsU f) (insAtF f b i) (backS (idsU f) ((blkAt f b).code.drop (i + 1)) (outAt (lastL f) b)) else backS (idsU f) ((blkAt f b).code.drop i) (outAt (lastL f) b) := by
 unfold atS
 rw [outs_get]
 rfl
/-- What is present at a point is what the chapter says. -/
theorem mem_pres (h : NewOk f) {p v : Int} : v ∈ presL f (idsU f) ((lastL f).map (·.2)) p ↔ presB f (succF f.blocks) p v = true := by
 have hO := LvOk.of h
 by_cases hex : ∃ b i o, PtAt f.blocks p b i o
 ·have ⟨b, i, o, hat⟩ := hex
  have ⟨B, hB, hi, hp, ho⟩ := hat
  have hb := (List.getElem?_eq_some_iff.1 hB).1
  have ⟨k1, k2, k3⟩ := hat.blk
  have hat' : atO f (idsU f) ((lastL f).map (·.2)) p = some (atS f (idsU f) ((lastL f).map (·.2)) b i o) := by
   unfold atO
   rw [k1, k2, k3, if_neg (by omega), Int.toNat_natCast, Int.toNat_natCast]
  have hlen := atS_len hO hb (i := i) (o := o)
  rw [presB_at hat]
  have hpl : presL f (idsU f) ((lastL f).map (·.2)) p = listL (idsU f) (atS f (idsU f) ((lastL f).map (·.2)) b i o) := by simp only [presL, hat']
  rw [hpl]
  have hw0 := want_iff (v := v) h.inn hb (i := i)
  have hw1 := want_iff (v := v) h.inn hb (i := i + 1)
  by_cases hv : v ∈ idsU f
  ·have ⟨k, hk⟩ := List.mem_iff_getElem?.1 hv
   have hkn := known_iff.2 hv
   rw [mem_at (idsU_lt f) hlen hk, atS_eq]
   cases o with
   | false =>
    rw [if_neg (by decide), if_neg (by decide), hw0, back_iff h hk hb]
    exact ⟨fun q => ⟨hkn, q⟩, fun q => q.2⟩
   | true =>
    have ⟨h1, _, _⟩ := lastL_ok h
    rw [if_pos rfl, if_pos rfl, def_get (idsU_lt f) hk (by rw [backS_len]; exact outAt_len h1 hb), Bool.or_eq_true, Bool.or_eq_true, Bool.and_eq_true, hw1, back_iff h hk hb]
    exact ⟨fun q => q.imp (fun q => ⟨hkn, q⟩) (fun q => ⟨hkn, q⟩), fun q => q.imp (fun q => q.2) (fun q => q.2)⟩
  ·have hkn : ¬ knownF f v = true := fun q => hv (known_iff.1 q)
   constructor
   ·intro q
    have ⟨k, _, e⟩ := (mem_listL hlen).1 q
    exact absurd (List.mem_of_getElem? e) hv
   ·intro q
    exfalso
    cases o with
    | false =>
     rw [if_neg (by decide), hw0] at q
     exact hkn q.1
    | true =>
     rw [if_pos rfl, Bool.or_eq_true, Bool.and_eq_true, hw1] at q
     rcases q with q | q
     ·exact hkn q.1
     ·exact hkn q.1
 ·have hno : ∀ b i o, ¬ PtAt f.blocks p b i o := fun b i o h => hex ⟨b, i, o, h⟩
  rw [presB_none hno]
  have := (pt_none hno).1
  unfold presL atO
  rw [if_pos this]
  simp
theorem pres_lt (h : NewOk f) {p : Int} : (presL f (idsU f) ((lastL f).map (·.2)) p).Pairwise (· < ·) := by
 unfold presL
 split
 ·exact .nil
 ·rename_i s e
  exact listL_lt (idsU_lt f) (atO_len (LvOk.of h) e)
theorem mem_allF {S : List (List Nat)} {p x : Int} {k : Nat} : x ∈ allF f S p k ↔ (∃ g ∈ f.regs.take k, g.id = x) ∧ presB f S p x = true := by
 induction k with
 | zero => simp [allF]
 | succ k ih =>
  cases hg : f.regs[k]? with
  | none =>
   have hl : f.regs.length ≤ k := List.getElem?_eq_none_iff.1 hg
   have e : f.regs.take (k + 1) = f.regs.take k := by rw [List.take_of_length_le (by omega), List.take_of_length_le hl]
   have : allF f S p (k + 1) = allF f S p k := by unfold allF; rw [e]
   rw [this, ih, e]
  | some g =>
   rw [allF_succ hg, snoc_take hg, stepA]
   have hd : (∃ g' ∈ f.regs.take k ++ [g], g'.id = x) ↔ (∃ g' ∈ f.regs.take k, g'.id = x) ∨ g.id = x := by
    simp only [List.mem_append, List.mem_singleton]
    constructor
    ·rintro ⟨g', h1 | h1, h2⟩
     ·exact .inl ⟨g', h1, h2⟩
     ·exact .inr (h1 ▸ h2)
    ·rintro (⟨g', h1, h2⟩ | h2)
     ·exact ⟨g', .inl h1, h2⟩
     ·exact ⟨g, .inr rfl, h2⟩
   rw [hd]
   by_cases c : (presB f S p g.id && !decide (g.id ∈ allF f S p k)) = true
   ·rw [if_pos c, List.mem_append, List.mem_singleton, ih]
    rw [Bool.and_eq_true] at c
    constructor
    ·rintro (q | q)
     ·exact ⟨.inl q.1, q.2⟩
     ·exact ⟨.inr q.symm, q ▸ c.1⟩
    ·rintro ⟨q | q, q2⟩
     ·exact .inl ⟨q, q2⟩
     ·exact .inr q.symm
   ·rw [if_neg c, ih]
    constructor
    ·exact fun q => ⟨.inl q.1, q.2⟩
    ·rintro ⟨q | q, q2⟩
     ·exact ⟨q, q2⟩
     ·subst q
      have : g.id ∈ allF f S p k := by
       refine Decidable.byContradiction fun hn => c ?_
       rw [q2, decide_eq_false hn]
       rfl
      exact ih.1 this
theorem allF_nodup {S : List (List Nat)} {p : Int} {k : Nat} : (allF f S p k).Nodup := by
 induction k with
 | zero => simp [allF]
 | succ k ih =>
  cases hg : f.regs[k]? with
  | none =>
   have hl : f.regs.length ≤ k := List.getElem?_eq_none_iff.1 hg
   have : allF f S p (k + 1) = allF f S p k := by unfold allF; rw [List.take_of_length_le (by omega), List.take_of_length_le hl]
   rw [this]
   exact ih
  | some g =>
   rw [allF_succ hg, stepA]
   by_cases c : (presB f S p g.id && !decide (g.id ∈ allF f S p k)) = true
   ·rw [if_pos c]
    rw [Bool.and_eq_true] at c
    have hn : g.id ∉ allF f S p k := by simpa using c.2
    rw [List.nodup_append]
    exact ⟨ih, by simp, fun a ha b hb e => hn (by rw [← (List.mem_singleton.1 hb), ← e]; exact ha)⟩
   ·rw [if_neg c]
    exact ih
theorem pres_len (h : NewOk f) {p : Int} : (presL f (idsU f) ((lastL f).map (·.2)) p).length = (allF f (succF f.blocks) p f.regs.length).length := by
 refine List.Perm.length_eq ?_
 have hnd : (presL f (idsU f) ((lastL f).map (·.2)) p).Nodup := (pres_lt h).imp fun h => by omega
 refine (List.perm_ext_iff_of_nodup hnd allF_nodup).2 fun x => ?_
 rw [mem_pres h, mem_allF, List.take_length]
 refine ⟨fun q => ⟨?_, q⟩, fun q => q.2⟩
 have hv : x ∈ idsU f := by
  have := (mem_pres h).2 q
  unfold presL at this
  split at this
  ·cases this
  ·rename_i s e
   have ⟨k, _, e⟩ := (mem_listL (atO_len (LvOk.of h) e)).1 this
   exact List.mem_of_getElem? e
 exact idsU_mem.1 hv
end
/- Spans, as live tells them, are the reference's: plain. -/
theorem spR_none {H : Int → Bool} {B : Int → Int} (h : ∀ p, H p = false) : ∀ j, spR H B j = ([], -2, -1)
 | 0 => rfl
 | j + 1 => by
  have e : spR H B (j + 1) = stepR H B (spR H B j) (j : Int) := rfl
  rw [e, spR_none h j, stepR, if_neg (by rw [h]; decide)]
theorem setTo_snoc {l : List (Int × Int)} {p q r : Int} : setTo (l ++ [(p, q)]) r = l ++ [(p, r)] := by
 unfold setTo
 rw [List.length_append, List.length_singleton, Nat.add_sub_cancel]
 have e : (l ++ [(p, q)]).getD l.length (0, 0) = (p, q) := by
  rw [List.getD_eq_getElem?_getD, List.getElem?_append_right (Nat.le_refl _), Nat.sub_self]
  rfl
 rw [e, List.set_append_right _ _ (Nat.le_refl _), Nat.sub_self]
 rfl
/-- One block's points. -/
theorem sp_block {H : Int → Bool} {BB : Int → Int} {bs : List Blk} {b : Nat} {B : Blk} (hB : bs[b]? = some B) (hBB : ∀ j : Nat, j + 1 < 2 * B.code.length → BB (2 * (sumTo bs b : Int) + j) = (b : Int)) (l : List (Int × Int))
  (h0 : (spR H BB (2 * sumTo bs b)).1 = l) (h1 : (spR H BB (2 * sumTo bs b)).2.2 < (b : Int)) : ∀ j : Nat, j + 1 ≤ 2 * B.code.length →
   (spR H BB (2 * sumTo bs b + j)).1 = (spJ H (2 * (sumTo bs b : Int)) l j).2 ∧ (spR H BB (2 * sumTo bs b + j)).2.2 ≤ (b : Int) ∧
   ((spJ H (2 * (sumTo bs b : Int)) l j).1 = true → (spR H BB (2 * sumTo bs b + j)).2.1 + 1 = 2 * (sumTo bs b : Int) + j ∧ (spR H BB (2 * sumTo bs b + j)).2.2 = (b : Int)) ∧
   ((spJ H (2 * (sumTo bs b : Int)) l j).1 = false → 2 * (sumTo bs b : Int) + j ≠ (spR H BB (2 * sumTo bs b + j)).2.1 + 1 ∨ (b : Int) ≠ (spR H BB (2 * sumTo bs b + j)).2.2)
 | 0, _ => ⟨h0, by rw [Nat.add_zero]; omega, (fun h => by cases h), fun _ => Or.inr (by rw [Nat.add_zero]; omega)⟩
 | j + 1, hj => by
  have ih := sp_block hB hBB l h0 h1 j (by omega)
  have hb := hBB j (by omega)
  have hinv := spR_inv (H := H) (B := BB) (j := 2 * sumTo bs b + j)
  have e1 : spR H BB (2 * sumTo bs b + (j + 1)) = stepR H BB (spR H BB (2 * sumTo bs b + j)) ((2 * sumTo bs b + j : Nat) : Int) := rfl
  have e2 : spJ H (2 * (sumTo bs b : Int)) l (j + 1) = stepSp H (spJ H (2 * (sumTo bs b : Int)) l j) (2 * (sumTo bs b : Int) + j) := rfl
  have e3 : ((2 * sumTo bs b + j : Nat) : Int) = 2 * (sumTo bs b : Int) + j := by omega
  rw [e3] at e1
  rw [e1, e2]
  generalize spR H BB (2 * sumTo bs b + j) = st at ih hinv ⊢
  generalize spJ H (2 * (sumTo bs b : Int)) l j = sj at ih ⊢
  obtain ⟨l1, la, bl⟩ := st
  obtain ⟨op, l2⟩ := sj
  simp only at ih hinv ⊢
  obtain ⟨i1, i2, i3, i4⟩ := ih
  subst i1
  unfold stepR stepSp
  by_cases c : H (2 * (sumTo bs b : Int) + j) = true
  ·rw [if_pos c, if_pos c]
   simp only [hb]
   refine ⟨?_, by omega, (fun _ => ⟨by omega, trivial⟩), (fun h => by cases h)⟩
   cases op with
   | true =>
    have ⟨k1, k2⟩ := i3 rfl
    rw [if_neg (show ¬ (2 * (sumTo bs b : Int) + j ≠ la + 1 ∨ (b : Int) ≠ bl) by omega), if_pos rfl]
   | false =>
    have hc := i4 rfl
    rw [if_pos (show 2 * (sumTo bs b : Int) + j ≠ la + 1 ∨ (b : Int) ≠ bl by omega), if_neg (by decide), setTo_snoc, setTo_snoc]
  ·rw [if_neg c, if_neg c]
   refine ⟨rfl, i2, (fun h => by cases h), fun _ => Or.inl ?_⟩
   simp only
   omega
theorem sp_all {H : Int → Bool} {BB : Int → Int} {bs : List Blk} (hBB : ∀ (b : Nat) (B : Blk) (j : Nat), bs[b]? = some B → j + 1 < 2 * B.code.length → BB (2 * (sumTo bs b : Int) + j) = (b : Int))
  (hH : ∀ (b : Nat) (B : Blk), bs[b]? = some B → 0 < B.code.length → H (2 * (sumTo bs (b + 1) : Int) - 1) = false) : ∀ b : Nat, b ≤ bs.length → (spR H BB (2 * sumTo bs b)).1 = spB H bs b ∧ (spR H BB (2 * sumTo bs b)).2.2 < (b : Int)
 | 0, _ => ⟨rfl, by show (-1 : Int) < 0; omega⟩
 | b + 1, hb => by
  have ⟨ih1, ih2⟩ := sp_all hBB hH b (by omega)
  have hB := List.getElem?_eq_getElem (l := bs) (i := b) (by omega)
  have hsu := sumTo_succ hB
  have hsp := sp_block hB (fun j hj => hBB b _ j hB hj) (spB H bs b) ih1 ih2
  have hlast := hH b _ hB
  have hpin := spanP_in (bs := bs) (b := b) (by omega)
  have hlen := len_at hB
  have e0 : spB H bs (b + 1) = (spJ H (spanP bs b).1 (spB H bs b) ((spanP bs b).2 - (spanP bs b).1).toNat).2 := rfl
  generalize bs[b] = B at hB hsu hsp hlast hlen
  by_cases hz : B.code.length = 0
  ·have hs : spanP bs b = (0, 0) := by rw [spanP, if_pos (by omega)]
   rw [e0, hs, hsu, hz]
   simp only [Nat.add_zero]
   exact ⟨ih1, by omega⟩
  ·have ⟨p1, p2⟩ := hpin.2.2.2.2 (by omega)
   rw [e0, p1, p2]
   have hn : (2 * (sumTo bs (b + 1) : Int) - 1 - 2 * (sumTo bs b : Int)).toNat = 2 * B.code.length - 1 := by omega
   rw [hn]
   have hq := hsp (2 * B.code.length - 1) (by omega)
   have e1 : 2 * sumTo bs (b + 1) = 2 * sumTo bs b + (2 * B.code.length - 1) + 1 := by omega
   have e2 : spR H BB (2 * sumTo bs b + (2 * B.code.length - 1) + 1) = stepR H BB (spR H BB (2 * sumTo bs b + (2 * B.code.length - 1))) ((2 * sumTo bs b + (2 * B.code.length - 1) : Nat) : Int) := rfl
   have e3 : ((2 * sumTo bs b + (2 * B.code.length - 1) : Nat) : Int) = 2 * (sumTo bs (b + 1) : Int) - 1 := by omega
   rw [e1, e2, e3, stepR, if_neg (by rw [hlast (by omega)]; decide)]
   exact ⟨hq.1, by have := hq.2.1; omega⟩
theorem spans_eq {f : Fnc} (h : NewOk f) (v : Int) : spansL f (idsU f) ((lastL f).map (·.1)) ((lastL f).map (·.2)) v = spansF f (succF f.blocks) v := by
 unfold spansL spansF
 by_cases hv : v ∈ idsU f
 ·have ⟨k, hk⟩ := List.mem_iff_getElem?.1 hv
  rw [if_neg (by rw [place_self (idsU_lt f) hk]; omega)]
  have hHe : hasP f (idsU f) ((lastL f).map (·.2)) v = fun p => presB f (succF f.blocks) p v := by
   funext p
   rw [Bool.eq_iff_iff, ← mem_pres h]
   unfold hasP presL
   cases e : atO f (idsU f) ((lastL f).map (·.2)) p with
   | none => simp
   | some s => exact has_at (idsU_lt f) (atO_len (LvOk.of h) e)
  rw [hHe]
  have hl : ((lastL f).map (·.1)).length = f.blocks.length := (LvOk.of h).il
  rw [hl]
  refine (sp_all (bs := f.blocks) (BB := fun p => (pntR f.blocks p).1) (fun b B j hB hj => ?_) (fun b B hB hl => ?_) f.blocks.length (Nat.le_refl _)).1.symm
  ·have : PtAt f.blocks (2 * (sumTo f.blocks b : Int) + j) b (j / 2) (j % 2 == 1) := by
    refine ⟨B, hB, by omega, ?_, fun e => ?_⟩
    ·by_cases c : j % 2 = 1
     ·rw [if_pos (by simp [c])]; omega
     ·rw [if_neg (by simp [c])]; omega
    ·have : j % 2 = 1 := by simpa using e
     omega
   simp only [this.pnt]
  ·have hsu := sumTo_succ hB
   refine presB_none fun b' i' o hat => ?_
   have ⟨B', hB', hi', hp', ho'⟩ := hat
   have ⟨_, hw, hm⟩ := hat.blk
   have ho : o = true := by
    rw [← hm]
    have : (2 * (sumTo f.blocks (b + 1) : Int) - 1) % 2 = 1 := by omega
    simp [this]
   rw [if_pos ho] at hp'
   have hw2 := (where_at hB (i := B.code.length - 1) (by omega)).1
   rw [show (2 * (sumTo f.blocks (b + 1) : Int) - 1) / 2 = ((sumTo f.blocks b + (B.code.length - 1) : Nat) : Int) by omega, hw2] at hw
   have hbb : b = b' := by have := congrArg Prod.fst hw; simp only at this; omega
   have hii : B.code.length - 1 = i' := by have := congrArg Prod.snd hw; simp only at this; omega
   subst hbb
   rw [hB] at hB'
   cases hB'
   have := ho' ho
   omega
 ·rw [if_pos (by rw [place_none hv]; omega)]
  rw [spR_none fun p => ?_]
  have := fun q => hv (known_iff.1 q)
  cases hq : presB f (succF f.blocks) p v with
  | false => rfl
  | true =>
   exfalso
   have hm := (mem_pres h).2 hq
   unfold presL at hm
   split at hm
   ·cases hm
   ·rename_i s e
    have ⟨k, _, e⟩ := (mem_listL (atO_len (LvOk.of h) e)).1 hm
    exact hv (List.mem_of_getElem? e)
end Go.Proofs.YtgbmneoeggdaoaaDoor.X
