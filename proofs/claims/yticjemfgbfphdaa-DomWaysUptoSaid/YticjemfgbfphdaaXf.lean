/- Dominators, plain: the order's places. -/
import Derived.Test.YticjemfgbfphdaaXe
namespace Go.Proofs.Yticjemfgbfphdaa.X
open Go Go.AM
set_option linter.unusedVariables false
theorem getDi_set {l : List Int} {i v : Nat} {x : Int} (h : i < l.length) : (l.set i x).getD v (-1) = if v = i then x else l.getD v (-1) := by
  simp only [List.getD_eq_getElem?_getD]
  by_cases e : v = i
  · subst e; rw [List.getElem?_set_self h, if_pos rfl]; rfl
  · rw [List.getElem?_set_ne (Ne.symm e), if_neg e]
theorem idx_ne {x v : Nat} {l : List Nat} (h : x ≠ v) : (x :: l).idxOf v = l.idxOf v + 1 := by
  rw [List.idxOf_cons, show (x == v) = false from by simpa using h]
  rfl
theorem odF_get : ∀ {l : List Nat} {k : Nat} {o : List Int}, l.Nodup → (∀ v ∈ l, v < o.length) → ∀ v, (odF k l o).getD v (-1) = if v ∈ l then ((k + l.idxOf v : Nat) : Int) else o.getD v (-1)
  | [], k, o, _, _, v => by simp [odF]
  | i :: r, k, o, hn, hl, v => by
    simp only [odF]
    have hnr := List.nodup_cons.1 hn
    have hi := hl i List.mem_cons_self
    rw [odF_get hnr.2 (fun w hw => by rw [List.length_set]; exact hl w (List.mem_cons_of_mem _ hw)) v, getDi_set hi]
    by_cases e : v = i
    · subst e
      rw [if_neg hnr.1, if_pos rfl, if_pos List.mem_cons_self]
      simp
    · rw [if_neg e]
      by_cases hm : v ∈ r
      · rw [if_pos hm, if_pos (List.mem_cons_of_mem _ hm), idx_ne (Ne.symm e)]
        congr 1
        omega
      · rw [if_neg hm, if_neg (by simp [e, hm])]
theorem minS_get {n v : Nat} : (minS n n).getD v (-1) = -1 := by
  simp only [List.getD_eq_getElem?_getD, minS, List.getElem?_map]
  by_cases h : v < n
  · simp [h]
  · simp [h]
/-- Where all that is reached stands. -/
structure Plc (s : List (List Nat)) (l : List Nat) (od : List Int) : Prop where
  len : od.length = s.length
  mem : ∀ v, 0 ≤ placeT od v ↔ Rch s (-1) v
  neg : ∀ v, ¬ Rch s (-1) v → placeT od v = -1
  zero : placeT od 0 = 0
  inj : ∀ a b, Rch s (-1) a → Rch s (-1) b → placeT od a = placeT od b → a = b
  par : ∀ v, Rch s (-1) v → v ≠ 0 → ∃ p, v ∈ s.getD p [] ∧ Rch s (-1) p ∧ placeT od p < placeT od v
  place : ∀ (k v : Nat), (0 :: l)[k]? = some v → placeT od v = (k : Int)
theorem idx_sub {l : List Nat} {p v : Nat} (hn : l.Nodup) (h : List.Sublist [p, v] l) : l.idxOf p < l.idxOf v := by
  induction l with
  | nil => cases h
  | cons x l ih =>
    have hnr := List.nodup_cons.1 hn
    cases h with
    | cons _ h =>
      have hp : p ∈ l := h.subset (by simp)
      have hv : v ∈ l := h.subset (by simp)
      have n1 : x ≠ p := fun e => hnr.1 (by rw [e]; exact hp)
      have n2 : x ≠ v := fun e => hnr.1 (by rw [e]; exact hv)
      rw [idx_ne n1, idx_ne n2]
      have := ih hnr.2 h
      omega
    | cons_cons _ h =>
      have hv : v ∈ l := h.subset (by simp)
      have n2 : p ≠ v := fun e => hnr.1 (by rw [e]; exact hv)
      rw [List.idxOf_cons_self, idx_ne n2]
      omega
theorem plc_of {s : List (List Nat)} {l : List Nat} (hw : WFs s) (h : OrdOk s (0 :: l)) : Plc s l (odT s.length (0 :: l)) := by
  have hlt : ∀ v ∈ 0 :: l, v < (minS s.length s.length).length := fun v hv => by rw [minS_len]; exact ((h.mem v).1 hv).lt hw
  have hg : ∀ v, placeT (odT s.length (0 :: l)) v = if v ∈ 0 :: l then (((0 :: l).idxOf v : Nat) : Int) else -1 := fun v => by
    have := odF_get (k := 0) h.nd hlt v
    rw [Nat.zero_add, minS_get] at this
    exact this
  have hpos : ∀ v, v ∈ 0 :: l → placeT (odT s.length (0 :: l)) v = (((0 :: l).idxOf v : Nat) : Int) := fun v hv => by rw [hg, if_pos hv]
  refine ⟨by rw [odT, odF_len, minS_len], fun v => ?_, fun v hv => ?_, ?_, fun a b ha hb e => ?_, fun v hv h0 => ?_, fun k v hk => ?_⟩
  · rw [← h.mem, hg]
    split
    · rename_i hm; exact ⟨fun _ => hm, fun _ => by omega⟩
    · rename_i hm; exact ⟨fun e => by omega, fun e => absurd e hm⟩
  · rw [hg, if_neg (fun hm => hv ((h.mem v).1 hm))]
  · rw [hpos 0 List.mem_cons_self, List.idxOf_cons_self]; rfl
  · have ha := (h.mem a).2 ha
    have hb := (h.mem b).2 hb
    rw [hpos a ha, hpos b hb] at e
    have e : (0 :: l).idxOf a = (0 :: l).idxOf b := by omega
    have ha' := List.getElem_idxOf (List.idxOf_lt_length_of_mem ha)
    have hb' := List.getElem_idxOf (List.idxOf_lt_length_of_mem hb)
    rw [← ha', ← hb']
    simp only [e]
  · obtain ⟨p, h1, h2⟩ := h.par v ((h.mem v).2 hv) h0
    have hp : p ∈ 0 :: l := h2.subset (by simp)
    refine ⟨p, h1, (h.mem p).1 hp, ?_⟩
    rw [hpos p hp, hpos v ((h.mem v).2 hv)]
    have := idx_sub h.nd h2
    omega
  · obtain ⟨hk2, rfl⟩ := List.getElem?_eq_some_iff.1 hk
    rw [hpos _ (List.getElem_mem hk2), h.nd.idxOf_getElem]
end Go.Proofs.Yticjemfgbfphdaa.X
/- Dominators, plain: ways up, and where two meet. -/
namespace Go.Proofs.Yticjemfgbfphdaa.X
open Go Go.AM
set_option linter.unusedVariables false
/-- d stands on the way up from a. -/
inductive Cn (id : List Int) : Nat → Nat → Prop where
  | refl (a : Nat) : Cn id a a
  | up {a d : Nat} : a ≠ 0 → 0 ≤ id.getD a 0 → Cn id (upT id a) d → Cn id a d
/-- A way from x to a block, behind x over blocks that stand behind x. -/
inductive Wy (s : List (List Nat)) (od : List Int) (x : Nat) : Nat → Prop where
  | one {b : Nat} : b ∈ s.getD x [] → placeT od x < placeT od b → Wy s od x b
  | step {a b : Nat} : Wy s od x a → b ∈ s.getD a [] → placeT od x < placeT od b → Wy s od x b
structure DI (s : List (List Nat)) (l : List Nat) (od id : List Int) : Prop where
  tw : TrW id od
  pl : Plc s l od
  z : id.getD 0 0 = 0
  rch : ∀ v, v < id.length → 0 ≤ id.getD v 0 → Rch s (-1) v
  A : ∀ j d, j < id.length → 0 ≤ id.getD j 0 → (d = j ∨ ¬ Rch s (d : Int) j) → Cn id j d
  B : ∀ j, j ≠ 0 → j < id.length → 0 ≤ id.getD j 0 → Wy s od (upT id j) j
theorem pos_of {s : List (List Nat)} {l : List Nat} {od id : List Int} (h : DI s l od id) {a : Nat} (ha : a < id.length) (va : 0 ≤ id.getD a 0) (h0 : a ≠ 0) : 0 < placeT od a := by
  have hr := h.rch a ha va
  have hp := (h.pl.mem a).2 hr
  have hz : Rch s (-1) 0 := (h.pl.mem 0).1 (by rw [h.pl.zero]; omega)
  rcases Int.lt_or_eq_of_le hp with h1 | h1
  · exact h1
  · exact absurd (h.pl.inj a 0 hr hz (by rw [h.pl.zero]; omega)) h0
theorem cn_place {s : List (List Nat)} {l : List Nat} {od id : List Int} (h : DI s l od id) {a d : Nat} (hc : Cn id a d) : a < id.length → 0 ≤ id.getD a 0 → placeT od d ≤ placeT od a ∧ d < id.length ∧ 0 ≤ id.getD d 0 := by
  induction hc with
  | refl a => intro ha va; exact ⟨Int.le_refl _, ha, va⟩
  | up h0 hv _ ih =>
    intro ha va
    obtain ⟨u1, u2, u3, u4⟩ := h.tw.up _ ha va (pos_of h ha va h0)
    obtain ⟨g1, g2, g3⟩ := ih u3 u4
    exact ⟨by omega, g2, g3⟩
theorem cn_trans {id : List Int} {a b c : Nat} (h : Cn id a b) (k : Cn id b c) : Cn id a c := by
  induction h with
  | refl => exact k
  | up h0 hv _ ih => exact .up h0 hv (ih k)
theorem meet_spec {s : List (List Nat)} {l : List Nat} {od id : List Int} (h : DI s l od id) : ∀ {f a b : Nat}, a < id.length → b < id.length → 0 ≤ id.getD a 0 → 0 ≤ id.getD b 0 → msrT od a b ≤ f →
    Cn id a (meetT id od f a b) ∧ Cn id b (meetT id od f a b) ∧ ∀ d, Cn id a d → Cn id b d → Cn id (meetT id od f a b) d
  | 0, a, b, la, lb, va, vb, hf => by
    have pa := h.tw.pos a la va
    have pb := h.tw.pos b lb vb
    have hab : a = b := h.tw.inj a b la lb va vb (by unfold msrT at hf; omega)
    subst hab
    exact ⟨.refl _, .refl _, fun d hd _ => hd⟩
  | f + 1, a, b, la, lb, va, vb, hf => by
    simp only [meetT]
    by_cases e : a = b
    · subst e
      rw [if_pos rfl]
      exact ⟨.refl _, .refl _, fun d hd _ => hd⟩
    · rw [if_neg e]
      have pa := h.tw.pos a la va
      have pb := h.tw.pos b lb vb
      have hne : placeT od a ≠ placeT od b := fun e2 => e (h.tw.inj a b la lb va vb e2)
      have z0 := h.pl.zero
      by_cases hlt : placeT od b < placeT od a
      · rw [if_pos hlt]
        have ha0 : a ≠ 0 := fun e => by subst e; omega
        obtain ⟨u1, u2, u3, u4⟩ := h.tw.up a la va (by omega)
        obtain ⟨g1, g2, g3⟩ := meet_spec h (f := f) u3 lb u4 vb (by unfold msrT at hf ⊢; omega)
        refine ⟨.up ha0 va g1, g2, fun d hd hd2 => g3 d ?_ hd2⟩
        cases hd with
        | refl =>
          have := (cn_place h hd2 lb vb).1
          omega
        | up _ _ hd => exact hd
      · rw [if_neg hlt]
        have hb0 : b ≠ 0 := fun e => by subst e; omega
        obtain ⟨u1, u2, u3, u4⟩ := h.tw.up b lb vb (by omega)
        obtain ⟨g1, g2, g3⟩ := meet_spec h (f := f) la u3 va u4 (by unfold msrT at hf ⊢; omega)
        refine ⟨g1, .up hb0 vb g2, fun d hd hd2 => g3 d hd ?_⟩
        cases hd2 with
        | refl =>
          have := (cn_place h hd la va).1
          omega
        | up _ _ hd2 => exact hd2
/-- A way up from a, of which each piece is a way. -/
theorem wy_up {s : List (List Nat)} {l : List Nat} {od id : List Int} (h : DI s l od id) {a x : Nat} (hc : Cn id a x) : a < id.length → 0 ≤ id.getD a 0 → a = x ∨ Wy s od x a := by
  induction hc with
  | refl a => intro _ _; exact .inl rfl
  | @up a d h0 hv hc ih =>
    intro la va
    obtain ⟨u1, u2, u3, u4⟩ := h.tw.up a la va (pos_of h la va h0)
    have hB := h.B a h0 la va
    have hp := (cn_place h hc u3 u4).1
    have hlift : ∀ {b}, Wy s od (upT id a) b → (upT id a = d ∨ Wy s od d (upT id a)) → Wy s od d b := by
      intro b hw hd
      induction hw with
      | one hb hpl =>
        rcases hd with hd | hd
        · rw [hd] at hb; exact .one hb (by omega)
        · exact .step hd hb (by omega)
      | step _ hb hpl ih => exact .step ih hb (by omega)
    exact .inr (hlift hB (ih u3 u4))
end Go.Proofs.Yticjemfgbfphdaa.X
/- Dominators, plain: one block more. -/
namespace Go.Proofs.Yticjemfgbfphdaa.X
open Go Go.AM
set_option linter.unusedVariables false
/-- What the ways in give. -/
def BS (id : List Int) (ps : List Nat) (best : Int) : Prop :=
  (best = -1 ∧ ∀ p ∈ ps, ¬ 0 ≤ id.getD p 0) ∨ ∃ x : Nat, best = (x : Int) ∧ x < id.length ∧ 0 ≤ id.getD x 0 ∧ (∃ p ∈ ps, 0 ≤ id.getD p 0) ∧ (∀ p ∈ ps, 0 ≤ id.getD p 0 → Cn id p x) ∧ ∀ d, (∀ p ∈ ps, 0 ≤ id.getD p 0 → Cn id p d) → Cn id x d
theorem getD01 {id : List Int} {p : Nat} (h : p < id.length) : id.getD p 0 = id.getD p (-1) := by
  simp [List.getD_eq_getElem?_getD, h]
theorem stepB_bs {s : List (List Nat)} {l : List Nat} {od id : List Int} (h : DI s l od id) (hr : ∀ p, -1 ≤ id.getD p (-1)) {ps : List Nat} {best : Int} {p : Nat} (hp : p < id.length) (hps : ∀ q ∈ ps, q < id.length) (hb : BS id ps best) : BS id (ps ++ [p]) (stepB id od best p) := by
  unfold stepB
  by_cases hv : 0 ≤ id.getD p 0
  · have hrp := h.rch p hp hv
    have hpl := (h.pl.mem p).2 hrp
    have h1 : ¬ (placeT od p = -1 ∨ id.getD p (-1) = -1) := by
      rw [← getD01 hp]
      omega
    rw [if_neg h1]
    rcases hb with ⟨rfl, hno⟩ | ⟨x, rfl, hx, vx, hex, hall, hgr⟩
    · rw [if_pos rfl]
      refine .inr ⟨p, rfl, hp, hv, ⟨p, by simp, hv⟩, fun q hq vq => ?_, fun d hd => hd p (by simp) hv⟩
      rcases List.mem_append.1 hq with hq | hq
      · exact absurd vq (hno q hq)
      · rw [List.mem_singleton.1 hq]; exact .refl _
    · rw [if_neg (by omega), Int.toNat_natCast]
      obtain ⟨m1, m2, m3⟩ := meet_spec h hx hp vx hv (Nat.le_refl _)
      have hok := meetT_ok h.tw (f := msrT od x p) hx hp vx hv
      refine .inr ⟨meetV id od x p, rfl, hok.1, hok.2, ⟨p, by simp, hv⟩, fun q hq vq => ?_, fun d hd => m3 d (hgr d fun q hq vq => hd q (List.mem_append_left _ hq) vq) (hd p (by simp) hv)⟩
      rcases List.mem_append.1 hq with hq | hq
      · exact cn_trans (hall q hq vq) m1
      · rw [List.mem_singleton.1 hq]; exact m2
  · have h1 : placeT od p = -1 ∨ id.getD p (-1) = -1 := by
      right
      have := hr p
      rw [getD01 hp] at hv
      omega
    rw [if_pos h1]
    have key : ∀ {Q : Nat → Prop}, (∀ q ∈ ps, 0 ≤ id.getD q 0 → Q q) → ∀ q ∈ ps ++ [p], 0 ≤ id.getD q 0 → Q q := fun hQ q hq vq => by
      rcases List.mem_append.1 hq with hq | hq
      · exact hQ q hq vq
      · rw [List.mem_singleton.1 hq] at vq; exact absurd vq hv
    rcases hb with ⟨rfl, hno⟩ | ⟨x, rfl, hx, vx, ⟨q0, hq0, vq0⟩, hall, hgr⟩
    · exact .inl ⟨rfl, fun q hq vq => key (Q := fun _ => False) (fun q hq vq => hno q hq vq) q hq vq⟩
    · exact .inr ⟨x, rfl, hx, vx, ⟨q0, List.mem_append_left _ hq0, vq0⟩, key hall, fun d hd => hgr d fun q hq vq => hd q (List.mem_append_left _ hq) vq⟩
theorem bestT_bs {s : List (List Nat)} {l : List Nat} {od id : List Int} (h : DI s l od id) (hr : ∀ p, -1 ≤ id.getD p (-1)) : ∀ {ps done : List Nat} {best : Int}, (∀ q ∈ done ++ ps, q < id.length) → BS id done best → BS id (done ++ ps) (ps.foldl (stepB id od) best)
  | [], done, best, _, hb => by simpa using hb
  | p :: ps, done, best, hl, hb => by
    have := bestT_bs h hr (ps := ps) (done := done ++ [p]) (best := stepB id od best p) (by simpa using hl) (stepB_bs h hr (hl p (by simp)) (fun q hq => hl q (List.mem_append_left _ hq)) hb)
    simpa using this
theorem rch_wy {s : List (List Nat)} {od : List Int} {d a b : Nat} (ha : Rch s (d : Int) a) (hw : Wy s od a b) (hp : placeT od d < placeT od a) : Rch s (d : Int) b := by
  induction hw with
  | one hb hpl => exact .step ha hb (fun e => by have : _ = d := Int.ofNat.inj e; subst this; omega)
  | step _ hb hpl ih => exact .step ih hb (fun e => by have : _ = d := Int.ofNat.inj e; subst this; omega)
theorem getD0_set {id : List Int} {i v : Nat} {x : Int} (h : i < id.length) : (id.set i x).getD v 0 = if v = i then x else id.getD v 0 := by
  simp only [List.getD_eq_getElem?_getD]
  by_cases e : v = i
  · subst e; rw [List.getElem?_set_self h, if_pos rfl]; rfl
  · rw [List.getElem?_set_ne (Ne.symm e), if_neg e]
theorem DI.set {s : List (List Nat)} {l : List Nat} {od id : List Int} (h : DI s l od id) {i x : Nat} {ps : List Nat} (hi : i < id.length) (hi0 : i ≠ 0) (hri : Rch s (-1) i) (hps : ∀ p ∈ ps, i ∈ s.getD p [] ∧ p < id.length)
    (hx : x < id.length) (vx : 0 ≤ id.getD x 0) (hex : ∃ p ∈ ps, 0 ≤ id.getD p 0) (hall : ∀ p ∈ ps, 0 ≤ id.getD p 0 → Cn id p x) (hgr : ∀ d, (∀ p ∈ ps, 0 ≤ id.getD p 0 → Cn id p d) → Cn id x d) (hxi : placeT od x < placeT od i) : DI s l od (id.set i (x : Int)) := by
  have hne : x ≠ i := fun e => by subst e; omega
  have hg : ∀ v, (id.set i (x : Int)).getD v 0 = if v = i then (x : Int) else id.getD v 0 := fun v => getD0_set hi
  have hup : ∀ a, upT (id.set i (x : Int)) a = if a = i then x else upT id a := fun a => by
    unfold upT
    rw [hg]
    split
    · simp
    · rfl
  have hV : ∀ v, v < id.length → 0 ≤ (id.set i (x : Int)).getD v 0 → Rch s (-1) v := fun v hv vv => by
    rw [hg] at vv
    split at vv
    · rename_i e; rw [e]; exact hri
    · exact h.rch v hv vv
  have hpos : ∀ v, v < id.length → 0 ≤ (id.set i (x : Int)).getD v 0 → 0 ≤ placeT od v := fun v hv vv => (h.pl.mem v).2 (hV v hv vv)
  have hkeep : ∀ v, 0 ≤ id.getD v 0 → 0 ≤ (id.set i (x : Int)).getD v 0 := fun v hv => by
    rw [hg]; split
    · omega
    · exact hv
  have tw : TrW (id.set i (x : Int)) od := by
    refine ⟨by rw [List.length_set]; exact h.tw.len, by rw [List.length_set]; exact h.tw.small, fun a ha va hp => ?_, fun a b ha hb va vb e => ?_, fun a ha va => ?_⟩
    · rw [List.length_set] at ha ⊢
      rw [hup]
      by_cases e : a = i
      · subst e
        rw [if_pos rfl]
        exact ⟨h.tw.pos x hx vx, hxi, hx, hkeep x vx⟩
      · rw [if_neg e]
        rw [hg, if_neg e] at va
        obtain ⟨u1, u2, u3, u4⟩ := h.tw.up a ha va hp
        exact ⟨u1, u2, u3, hkeep _ u4⟩
    · rw [List.length_set] at ha hb
      exact h.pl.inj a b (hV a ha va) (hV b hb vb) e
    · rw [List.length_set] at ha
      exact hpos a ha va
  -- ways up that do not come to i are as they were
  have hlow : ∀ {a d : Nat}, Cn id a d → a < id.length → 0 ≤ id.getD a 0 → placeT od a < placeT od i → Cn (id.set i (x : Int)) a d := by
    intro a d hc
    induction hc with
    | refl a => intro _ _ _; exact .refl _
    | @up a d h0 hv hc ih =>
      intro la va hlt
      have hai : a ≠ i := fun e => by subst e; omega
      obtain ⟨u1, u2, u3, u4⟩ := h.tw.up a la va (pos_of h la va h0)
      refine .up h0 (hkeep a va) ?_
      rw [hup, if_neg hai]
      exact ih u3 u4 (by omega)
  have hAi : ∀ d, (d = i ∨ ¬ Rch s (d : Int) i) → Cn (id.set i (x : Int)) i d := fun d hd => by
    by_cases e : d = i
    · subst e; exact .refl _
    · have hnr := hd.resolve_left e
      refine .up hi0 (by rw [hg, if_pos rfl]; omega) ?_
      rw [hup, if_pos rfl]
      refine hlow (hgr d fun p hp vp => ?_) hx vx hxi
      refine h.A p d (hps p hp).2 vp ?_
      by_cases e2 : d = p
      · exact .inl e2
      · exact .inr fun hr => hnr (.step hr (hps p hp).1 (fun e3 => e (Int.ofNat.inj e3).symm))
  have hsplit : ∀ {a d : Nat}, Cn id a d → a < id.length → 0 ≤ id.getD a 0 → Cn (id.set i (x : Int)) a d ∨ (Cn (id.set i (x : Int)) a i ∧ Cn id a i ∧ Cn id i d ∧ d ≠ i ∧ 0 ≤ id.getD i 0) := by
    intro a d hc
    induction hc with
    | refl a => intro _ _; exact .inl (.refl _)
    | @up a d h0 hv hc ih =>
      intro la va
      by_cases hai : a = i
      · subst hai
        by_cases hd : d = a
        · subst hd; exact .inl (.refl _)
        · exact .inr ⟨.refl _, .refl _, .up h0 hv hc, hd, va⟩
      · obtain ⟨u1, u2, u3, u4⟩ := h.tw.up a la va (pos_of h la va h0)
        have hs : upT (id.set i (x : Int)) a = upT id a := by rw [hup, if_neg hai]
        rcases ih u3 u4 with g | ⟨g1, g2, g3, g4, g5⟩
        · exact .inl (.up h0 (hkeep a va) (by rw [hs]; exact g))
        · exact .inr ⟨.up h0 (hkeep a va) (by rw [hs]; exact g1), .up h0 hv g2, g3, g4, g5⟩
  refine ⟨tw, h.pl, by rw [hg, if_neg (Ne.symm hi0)]; exact h.z, fun v hv vv => hV v (by simpa using hv) vv, fun j d hj vj hd => ?_, fun j hj0 hj vj => ?_⟩
  · rw [List.length_set] at hj
    by_cases hji : j = i
    · subst hji; exact hAi d hd
    · have vj' : 0 ≤ id.getD j 0 := by rwa [hg, if_neg hji] at vj
      rcases hsplit (h.A j d hj vj' hd) hj vj' with g | ⟨g1, g2, g3, g4, g5⟩
      · exact g
      · refine cn_trans g1 (hAi d (.inr fun hr => ?_))
        have hpd : placeT od d < placeT od i := by
          obtain ⟨p1, p2, p3⟩ := cn_place h g3 hi g5
          rcases Int.lt_or_eq_of_le p1 with h1 | h1
          · exact h1
          · exact absurd (h.pl.inj d i (h.rch d p2 p3) hri h1) g4
        rcases wy_up h g2 hj vj' with e | hw
        · exact hji e
        · have hrj := rch_wy hr hw hpd
          rcases hd with hd | hd
          · exact hrj.ne (by rw [hd])
          · exact hd hrj
  · rw [List.length_set] at hj
    rw [hup]
    by_cases hji : j = i
    · subst hji
      rw [if_pos rfl]
      obtain ⟨p, hp, vp⟩ := hex
      rcases wy_up h (hall p hp vp) (hps p hp).2 vp with e | hw
      · rw [← e]; rw [← e] at hxi; exact .one (hps p hp).1 hxi
      · exact .step hw (hps p hp).1 hxi
    · rw [if_neg hji]
      rw [hg, if_neg hji] at vj
      exact h.B j hj0 hj vj
end Go.Proofs.Yticjemfgbfphdaa.X
/- Dominators, plain: ways of so many edges back. -/
namespace Go.Proofs.Yticjemfgbfphdaa.X
open Go Go.AM
set_option linter.unusedVariables false
/-- A way from the first block, of t edges that go back; the blocks on it. -/
inductive Pth (s : List (List Nat)) (od : List Int) : Nat → List Nat → Nat → Prop where
  | zero : Pth s od 0 [0] 0
  | adv {t : Nat} {ns : List Nat} {a b : Nat} : Pth s od t ns a → b ∈ s.getD a [] → placeT od a < placeT od b → Pth s od t (b :: ns) b
  | ret {t : Nat} {ns : List Nat} {a b : Nat} : Pth s od t ns a → b ∈ s.getD a [] → ¬ placeT od a < placeT od b → Pth s od (t + 1) (b :: ns) b
theorem Pth.mem {s : List (List Nat)} {od : List Int} {t : Nat} {ns : List Nat} {j : Nat} (h : Pth s od t ns j) : j ∈ ns := by
  cases h <;> simp
theorem Pth.rch {s : List (List Nat)} {od : List Int} {t : Nat} {ns : List Nat} {j : Nat} (h0 : Rch s (-1) 0) (h : Pth s od t ns j) : Rch s (-1) j := by
  induction h with
  | zero => exact h0
  | adv _ hb _ ih => exact .step ih hb (by omega)
  | ret _ hb _ ih => exact .step ih hb (by omega)
theorem Pth.pre {s : List (List Nat)} {od : List Int} {t : Nat} {ns : List Nat} {j i : Nat} (h : Pth s od t ns j) : i ∈ ns → ∃ t' ns', t' ≤ t ∧ Pth s od t' ns' i ∧ ∀ v ∈ ns', v ∈ ns := by
  induction h with
  | zero =>
    intro hi
    rw [List.mem_singleton.1 hi]
    exact ⟨0, [0], Nat.le_refl _, .zero, fun v hv => hv⟩
  | @adv t ns a b hp hb hl ih =>
    intro hi
    rcases List.mem_cons.1 hi with rfl | hi
    · exact ⟨t, _, Nat.le_refl _, .adv hp hb hl, fun v hv => hv⟩
    · obtain ⟨t', ns', g1, g2, g3⟩ := ih hi
      exact ⟨t', ns', g1, g2, fun v hv => List.mem_cons_of_mem _ (g3 v hv)⟩
  | @ret t ns a b hp hb hl ih =>
    intro hi
    rcases List.mem_cons.1 hi with rfl | hi
    · exact ⟨t + 1, _, Nat.le_refl _, .ret hp hb hl, fun v hv => hv⟩
    · obtain ⟨t', ns', g1, g2, g3⟩ := ih hi
      exact ⟨t', ns', by omega, g2, fun v hv => List.mem_cons_of_mem _ (g3 v hv)⟩
def PI (s : List (List Nat)) (od id : List Int) (tau : Nat → Nat) : Prop := ∀ j d, j < id.length → 0 ≤ id.getD j 0 → Cn id j d → ∀ t ns, t < tau j → Pth s od t ns j → d ∈ ns
theorem cn_zero {id : List Int} {d : Nat} (h : Cn id 0 d) : d = 0 := by
  cases h with
  | refl => rfl
  | up h0 _ _ => exact absurd rfl h0
theorem PI.set {s : List (List Nat)} {l : List Nat} {od id : List Int} {tau : Nat → Nat} {T : Nat} (h : DI s l od id) (hP : PI s od id tau) {i x : Nat} {ps : List Nat} (hi : i < id.length) (hi0 : i ≠ 0) (hps : ∀ p, p < id.length → Rch s (-1) p → i ∈ s.getD p [] → p ∈ ps)
    (hx : x < id.length) (vx : 0 ≤ id.getD x 0) (hall : ∀ p ∈ ps, 0 ≤ id.getD p 0 → Cn id p x) (hxi : placeT od x < placeT od i) (hw : WFs s) (hn : id.length = s.length)
    (hH : ∀ p, Rch s (-1) p → i ∈ s.getD p [] → (placeT od p < placeT od i → 0 ≤ id.getD p 0 ∧ (p = 0 ∨ T < tau p)) ∧ (¬ placeT od p < placeT od i → T = 0 ∨ (0 ≤ id.getD p 0 ∧ T ≤ tau p)))
    (hT : ∀ j, tau j ≤ T + 1) : PI s od (id.set i (x : Int)) (fun j => if j = i then T + 1 else tau j) := by
  have hz : Rch s (-1) 0 := (h.pl.mem 0).1 (by rw [h.pl.zero]; omega)
  have hne : x ≠ i := fun e => by subst e; omega
  have hg : ∀ v, (id.set i (x : Int)).getD v 0 = if v = i then (x : Int) else id.getD v 0 := fun v => getD0_set hi
  have hup : ∀ a, upT (id.set i (x : Int)) a = if a = i then x else upT id a := fun a => by
    unfold upT
    rw [hg]
    split
    · simp
    · rfl
  -- back: a way up in the new state
  have hback : ∀ {a d : Nat}, Cn (id.set i (x : Int)) a d → a < id.length → 0 ≤ id.getD a 0 → a ≠ i → Cn id a d ∨ (Cn id a i ∧ Cn (id.set i (x : Int)) i d) := by
    intro a d hc
    induction hc with
    | refl a => intro _ _ _; exact .inl (.refl _)
    | @up a d h0 hv hc ih =>
      intro la va hai
      obtain ⟨u1, u2, u3, u4⟩ := h.tw.up a la va (pos_of h la va h0)
      have hs : upT (id.set i (x : Int)) a = upT id a := by rw [hup, if_neg hai]
      rw [hs] at hc ih
      by_cases hui : upT id a = i
      · exact .inr ⟨.up h0 va (by rw [hui]; exact .refl _), by rw [hui] at hc; exact hc⟩
      · rcases ih u3 u4 hui with g | ⟨g1, g2⟩
        · exact .inl (.up h0 va g)
        · exact .inr ⟨.up h0 va g1, g2⟩
  have hlow : ∀ {a d : Nat}, Cn (id.set i (x : Int)) a d → a < id.length → 0 ≤ id.getD a 0 → placeT od a < placeT od i → Cn id a d := by
    intro a d hc la va hlt
    rcases hback hc la va (fun e => by subst e; omega) with g | ⟨g1, _⟩
    · exact g
    · have := (cn_place h g1 la va).1
      omega
  have hEdge : ∀ p d t ns, Rch s (-1) p → i ∈ s.getD p [] → 0 ≤ id.getD p 0 → (p = 0 ∨ t < tau p) → Pth s od t ns p → Cn id x d → d ∈ ns := fun p d t ns hrp hm vp ht hp hd => by
    have hpl : p < id.length := by rw [hn]; exact hrp.lt hw
    have hc := cn_trans (hall p (hps p hpl hrp hm) vp) hd
    rcases ht with rfl | ht
    · rw [cn_zero hc]; exact hp.mem
    · exact hP p d hpl vp hc t ns ht hp
  have hI : ∀ d, Cn (id.set i (x : Int)) i d → ∀ t ns, t < T + 1 → Pth s od t ns i → d ∈ ns := by
    intro d hc t ns ht hp
    cases hc with
    | refl => exact hp.mem
    | up _ _ hc =>
      rw [hup, if_pos rfl] at hc
      have hd := hlow hc hx vx hxi
      cases hp with
      | zero => exact absurd rfl hi0
      | adv hp hb hl =>
        obtain ⟨g1, g2⟩ := (hH _ (hp.rch hz) hb).1 hl
        exact List.mem_cons_of_mem _ (hEdge _ d _ _ (hp.rch hz) hb g1 (g2.imp (fun e => e) (fun e => by omega)) hp hd)
      | ret hp hb hl =>
        rcases (hH _ (hp.rch hz) hb).2 hl with g | ⟨g1, g2⟩
        · omega
        · exact List.mem_cons_of_mem _ (hEdge _ d _ _ (hp.rch hz) hb g1 (.inr (by omega)) hp hd)
  intro j d hj vj hc t ns ht hp
  rw [List.length_set] at hj
  by_cases hji : j = i
  · subst hji
    simp only [if_true] at ht
    exact hI d hc t ns ht hp
  · simp only [if_neg hji] at ht
    rw [hg, if_neg hji] at vj
    rcases hback hc hj vj hji with g | ⟨g1, g2⟩
    · exact hP j d hj vj g t ns ht hp
    · have him := hP j i hj vj g1 t ns ht hp
      obtain ⟨t', ns', p1, p2, p3⟩ := hp.pre him
      have := hT j
      exact p3 d (hI d g2 t' ns' (by omega) p2)
end Go.Proofs.Yticjemfgbfphdaa.X
/- Dominators, plain: one step of a round. -/
namespace Go.Proofs.Yticjemfgbfphdaa.X
open Go Go.AM
set_option linter.unusedVariables false
/-- What a step of a round is: the block's nearest one is the meet of all known ways in. -/
structure Stp1 (s : List (List Nat)) (l : List Nat) (od id id' : List Int) (i : Nat) (ps : List Nat) : Prop where
  di : DI s l od id'
  ge : ∀ p, -1 ≤ id'.getD p (-1)
  vi : 0 ≤ id'.getD i 0
  keep : ∀ v, 0 ≤ id.getD v 0 → 0 ≤ id'.getD v 0
  len : id'.length = id.length
theorem step_DI {s : List (List Nat)} {l : List Nat} {od id : List Int} {ch : Bool} {P : List (List Nat)} (h : DI s l od id) (hr : ∀ p, -1 ≤ id.getD p (-1)) {i : Nat} (hi : i < id.length) (hi0 : i ≠ 0) (hri : Rch s (-1) i)
    (hps : ∀ p ∈ P.getD i [], i ∈ s.getD p [] ∧ p < id.length) (hpar : ∃ p ∈ P.getD i [], 0 ≤ id.getD p 0 ∧ placeT od p < placeT od i) :
    Stp1 s l od id (stepR od P (id, ch) i).1 i (P.getD i []) ∧ ∃ x : Nat, x < id.length ∧ 0 ≤ id.getD x 0 ∧ (∀ p ∈ P.getD i [], 0 ≤ id.getD p 0 → Cn id p x) ∧ placeT od x < placeT od i ∧ bestT id od (P.getD i []) = (x : Int) ∧ (stepR od P (id, ch) i).1 = id.set i (x : Int) := by
  have hb := bestT_bs h hr (ps := P.getD i []) (done := []) (best := -1) (fun q hq => (hps q (by simpa using hq)).2) (.inl ⟨rfl, fun p hp => by cases hp⟩)
  rw [List.nil_append] at hb
  have hb : BS id (P.getD i []) (bestT id od (P.getD i [])) := hb
  obtain ⟨p0, hp0, vp0, hlt0⟩ := hpar
  rcases hb with ⟨_, hno⟩ | ⟨x, hbx, hx, vx, hex, hall, hgr⟩
  · exact absurd vp0 (hno p0 hp0)
  · have hxi : placeT od x < placeT od i := by
      have := (cn_place h (hall p0 hp0 vp0) (hps p0 hp0).2 vp0).1
      omega
    have hset : (stepR od P (id, ch) i).1 = id.set i (x : Int) := by
      unfold stepR
      simp only [hbx]
      split
      · rename_i e
        apply List.ext_getElem?
        intro k
        by_cases hk : k = i
        · subst hk
          rw [List.getElem?_set_self hi, List.getElem?_eq_getElem hi]
          have : id.getD k (-1) = id[k] := by simp [List.getD_eq_getElem?_getD, hi]
          rw [← e, this]
        · rw [List.getElem?_set_ne (Ne.symm hk)]
      · rfl
    have hd := h.set hi hi0 hri hps hx vx hex hall hgr hxi
    refine ⟨?_, x, hx, vx, hall, hxi, hbx, hset⟩
    rw [hset]
    refine ⟨hd, fun p => ?_, by rw [getD0_set hi, if_pos rfl]; omega, fun v hv => ?_, by simp⟩
    · rw [getDi_set hi]
      split
      · omega
      · exact hr p
    · rw [getD0_set hi]
      split
      · omega
      · exact hv
end Go.Proofs.Yticjemfgbfphdaa.X
/- Dominators, plain: a round. -/
namespace Go.Proofs.Yticjemfgbfphdaa.X
open Go Go.AM
set_option linter.unusedVariables false
/-- The state in a round, behind k of its blocks: each of them is known. -/
structure RI (s : List (List Nat)) (l : List Nat) (od id : List Int) (k : Nat) : Prop where
  di : DI s l od id
  ge : ∀ p, -1 ≤ id.getD p (-1)
  len : id.length = s.length
  kn : ∀ v ∈ (0 :: l).take (k + 1), 0 ≤ id.getD v 0
structure GrP (s P : List (List Nat)) : Prop where
  wf : WFs s
  mem : ∀ i p, p ∈ P.getD i [] ↔ i ∈ s.getD p []
theorem mem_src {s : List (List Nat)} {i p : Nat} (h : i ∈ s.getD p []) : p < s.length := by
  rcases Nat.lt_or_ge p s.length with h' | h'
  · exact h'
  · simp [List.getD_eq_getElem?_getD, List.getElem?_eq_none h'] at h
theorem RI.step {s P : List (List Nat)} {l : List Nat} {od id : List Int} {ch : Bool} (hG : GrP s P) (ho : OrdOk s (0 :: l)) {k i : Nat} (hk : l[k]? = some i) (h : RI s l od id k) : RI s l od (stepR od P (id, ch) i).1 (k + 1) := by
  have him : i ∈ l := List.mem_of_getElem? hk
  have hri : Rch s (-1) i := (ho.mem i).1 (List.mem_cons_of_mem _ him)
  have hi0 : i ≠ 0 := fun e => (List.nodup_cons.1 ho.nd).1 (e ▸ him)
  have hil : i < id.length := by rw [h.len]; exact hri.lt hG.wf
  obtain ⟨p, hp1, hp2, hp3⟩ := h.di.pl.par i hri hi0
  have hpk : p ∈ (0 :: l).take (k + 1) := by
    have hpm := (ho.mem p).2 hp2
    obtain ⟨q, hq, rfl⟩ := List.getElem_of_mem hpm
    have e1 := h.di.pl.place q _ (List.getElem?_eq_getElem hq)
    have e2 := h.di.pl.place (k + 1) i (by simpa using hk)
    rw [List.mem_take_iff_getElem]
    refine ⟨q, ?_, rfl⟩
    have hk1 : k < l.length := (List.getElem?_eq_some_iff.1 hk).1
    simp only [List.length_cons] at hq ⊢
    omega
  obtain ⟨st, _⟩ := step_DI (ch := ch) (P := P) h.di h.ge hil hi0 hri (fun q hq => ⟨(hG.mem i q).1 hq, by rw [h.len]; exact mem_src ((hG.mem i q).1 hq)⟩) ⟨p, (hG.mem i p).2 hp1, h.kn p hpk, hp3⟩
  refine ⟨st.di, st.ge, by rw [st.len, h.len], fun v hv => ?_⟩
  have hk2 : (0 :: l)[k + 1]? = some i := by simpa using hk
  rw [snoc_take hk2] at hv
  rcases List.mem_append.1 hv with hv | hv
  · exact st.keep v (h.kn v hv)
  · rw [List.mem_singleton.1 hv]; exact st.vi
end Go.Proofs.Yticjemfgbfphdaa.X
/- Dominators, plain: a round, and the ways of so many edges back. -/
namespace Go.Proofs.Yticjemfgbfphdaa.X
open Go Go.AM
set_option linter.unusedVariables false
def tauK (l : List Nat) (T k v : Nat) : Nat := if v ∈ l.take k then T + 1 else T
theorem PI.mono {s : List (List Nat)} {od id : List Int} {t t' : Nat → Nat} (h : PI s od id t) (hl : ∀ j, t' j ≤ t j) : PI s od id t' := fun j d hj vj hc q ns hq hp => h j d hj vj hc q ns (Nat.lt_of_lt_of_le hq (hl j)) hp
theorem PI.step {s P : List (List Nat)} {l : List Nat} {od id : List Int} {ch : Bool} {T : Nat} (hG : GrP s P) (ho : OrdOk s (0 :: l)) {k i : Nat} (hk : l[k]? = some i) (h : RI s l od id k) (hP : PI s od id (tauK l T k)) (hV : T = 0 ∨ ∀ v, Rch s (-1) v → 0 ≤ id.getD v 0) : PI s od (stepR od P (id, ch) i).1 (tauK l T (k + 1)) := by
  have him : i ∈ l := List.mem_of_getElem? hk
  have hri : Rch s (-1) i := (ho.mem i).1 (List.mem_cons_of_mem _ him)
  have hi0 : i ≠ 0 := fun e => (List.nodup_cons.1 ho.nd).1 (e ▸ him)
  have hil : i < id.length := by rw [h.len]; exact hri.lt hG.wf
  have hk1 : k < l.length := (List.getElem?_eq_some_iff.1 hk).1
  have hbef : ∀ p, Rch s (-1) p → placeT od p < placeT od i → p ∈ (0 :: l).take (k + 1) := fun p hp2 hp3 => by
    have hpm := (ho.mem p).2 hp2
    obtain ⟨q, hq, rfl⟩ := List.getElem_of_mem hpm
    have e1 := h.di.pl.place q _ (List.getElem?_eq_getElem hq)
    have e2 := h.di.pl.place (k + 1) i (by simpa using hk)
    rw [List.mem_take_iff_getElem]
    refine ⟨q, ?_, rfl⟩
    simp only [List.length_cons] at hq ⊢
    omega
  obtain ⟨p, hp1, hp2, hp3⟩ := h.di.pl.par i hri hi0
  obtain ⟨st, x, hx, vx, hall, hxi, hbx, hset⟩ := step_DI (ch := ch) (P := P) h.di h.ge hil hi0 hri (fun q hq => ⟨(hG.mem i q).1 hq, by rw [h.len]; exact mem_src ((hG.mem i q).1 hq)⟩) ⟨p, (hG.mem i p).2 hp1, h.kn p (hbef p hp2 hp3), hp3⟩
  rw [hset]
  have := PI.set (T := T) h.di hP hil hi0 (ps := P.getD i []) (fun q _ _ hm => (hG.mem i q).2 hm) hx vx hall hxi hG.wf h.len (fun q hq hm => ⟨fun hlt => ?_, fun hnl => ?_⟩) (fun j => by unfold tauK; split <;> omega)
  · refine this.mono fun j => ?_
    unfold tauK
    by_cases e : j = i
    · rw [if_pos e]; split <;> omega
    · rw [if_neg e]
      have : j ∈ l.take (k + 1) ↔ j ∈ l.take k := by
        rw [snoc_take hk]; simp [e]
      by_cases hm : j ∈ l.take k
      · rw [if_pos hm, if_pos (this.2 hm)]; omega
      · rw [if_neg hm, if_neg (fun hh => hm (this.1 hh))]; omega
  · have hb := hbef q hq hlt
    refine ⟨h.kn q hb, ?_⟩
    rw [List.take_succ_cons] at hb
    rcases List.mem_cons.1 hb with hb | hb
    · exact .inl hb
    · right
      unfold tauK
      rw [if_pos hb]; omega
  · refine hV.imp (fun e => e) fun hv => ⟨hv q hq, ?_⟩
    unfold tauK
    split <;> omega
end Go.Proofs.Yticjemfgbfphdaa.X
/- Dominators, plain: all rounds. -/
namespace Go.Proofs.Yticjemfgbfphdaa.X
open Go Go.AM
set_option linter.unusedVariables false
theorem exists_least {p : Nat → Prop} : ∀ n, p n → ∃ n, p n ∧ ∀ m, m < n → ¬ p m := by
  intro n
  induction n using Nat.strongRecOn with
  | ind n ih =>
    intro h
    by_cases hx : ∃ m, m < n ∧ p m
    · obtain ⟨m, h1, h2⟩ := hx
      exact ih m h1 h2
    · exact ⟨n, h, fun m hm hp => hx ⟨m, hm, hp⟩⟩
theorem bound_all {Q : Nat → Nat → Prop} (n : Nat) (h : ∀ j, j < n → ∃ t, ∀ m, t ≤ m → Q j m) : ∃ t, ∀ j, j < n → ∀ m, t ≤ m → Q j m := by
  induction n with
  | zero => exact ⟨0, fun j hj => by omega⟩
  | succ n ih =>
    obtain ⟨t, ht⟩ := ih fun j hj => h j (by omega)
    obtain ⟨t2, ht2⟩ := h n (by omega)
    refine ⟨max t t2, fun j hj m hm => ?_⟩
    by_cases e : j = n
    · subst e; exact ht2 m (by omega)
    · exact ht j (by omega) m (by omega)
theorem start_get {n v : Nat} (h : 0 < n) : ((minS n n).set 0 0).getD v (-1) = if v = 0 then 0 else -1 := by
  rw [getDi_set (by rw [minS_len]; exact h), minS_get]
theorem RI.init {s P : List (List Nat)} {l : List Nat} (hG : GrP s P) (ho : OrdOk s (0 :: l)) (h0 : 0 < s.length) (hs : s.length < 1000000) : RI s l (odT s.length (0 :: l)) ((minS s.length s.length).set 0 0) 0 := by
  have pl := plc_of hG.wf ho
  have hlen : ((minS s.length s.length).set 0 0).length = s.length := by rw [List.length_set, minS_len]
  have hg : ∀ v, v < s.length → ((minS s.length s.length).set 0 0).getD v 0 = if v = 0 then 0 else -1 := fun v hv => by
    rw [getD01 (by rw [hlen]; exact hv), start_get h0]
  have hv0 : ∀ v, v < s.length → 0 ≤ ((minS s.length s.length).set 0 0).getD v 0 → v = 0 := fun v hv hh => by
    rw [hg v hv] at hh
    split at hh
    · assumption
    · omega
  have hz : Rch s (-1) 0 := .base h0 (by omega)
  have z0 := pl.zero
  refine ⟨⟨⟨by rw [hlen, pl.len], by rw [hlen]; exact hs, fun a ha va hp => ?_, fun a b ha hb va vb e => ?_, fun a ha va => ?_⟩, pl, by rw [hg 0 h0]; rfl, fun v hv vv => ?_, fun j d hj vj hd => ?_, fun j hj0 hj vj => ?_⟩, fun p => ?_, hlen, fun v hv => ?_⟩
  · rw [hlen] at ha
    rw [hv0 a ha va] at hp
    omega
  · rw [hlen] at ha hb
    rw [hv0 a ha va, hv0 b hb vb]
  · rw [hlen] at ha
    rw [hv0 a ha va]
    omega
  · rw [hlen] at hv
    rw [hv0 v hv vv]
    exact hz
  · rw [hlen] at hj
    have e := hv0 j hj vj
    subst e
    rcases hd with rfl | hd
    · exact .refl _
    · by_cases e : d = 0
      · subst e; exact .refl _
      · exact absurd (.base h0 (by omega)) hd
  · rw [hlen] at hj
    exact absurd (hv0 j hj vj) hj0
  · rw [start_get h0]
    split <;> omega
  · have hv : v = 0 := by simpa using hv
    subst hv
    rw [hg 0 h0]
    simp
structure St (s : List (List Nat)) (l : List Nat) (od id : List Int) (T : Nat) : Prop where
  ri : RI s l od id 0
  pi : PI s od id (fun _ => T)
  kn : T = 0 ∨ ∀ v, Rch s (-1) v → 0 ≤ id.getD v 0
theorem tau_zero {l : List Nat} {T : Nat} : tauK l T 0 = fun _ => T := by
  funext v
  unfold tauK
  simp
theorem St.part {s P : List (List Nat)} {l : List Nat} {od id : List Int} {T : Nat} (hG : GrP s P) (ho : OrdOk s (0 :: l)) (h : St s l od id T) : ∀ k, k ≤ l.length → RI s l od ((l.take k).foldl (stepR od P) (id, false)).1 k ∧ PI s od ((l.take k).foldl (stepR od P) (id, false)).1 (tauK l T k) ∧ (∀ v, 0 ≤ id.getD v 0 → 0 ≤ ((l.take k).foldl (stepR od P) (id, false)).1.getD v 0)
  | 0, _ => ⟨h.ri, by rw [tau_zero]; exact h.pi, fun v hv => hv⟩
  | k + 1, hk => by
    obtain ⟨g1, g2, g3⟩ := St.part hG ho h k (by omega)
    have hi : l[k]? = some l[k] := List.getElem?_eq_getElem (by omega)
    generalize l[k] = i at hi
    rw [snoc_take hi, List.foldl_append]
    generalize (l.take k).foldl (stepR od P) (id, false) = x at g1 g2 g3 ⊢
    obtain ⟨y, ch⟩ := x
    have hkn : T = 0 ∨ ∀ v, Rch s (-1) v → 0 ≤ y.getD v 0 := h.kn.imp (fun e => e) fun hh v hv => g3 v (hh v hv)
    refine ⟨g1.step hG ho hi, PI.step hG ho hi g1 g2 hkn, fun v hv => ?_⟩
    have him : i ∈ l := List.mem_of_getElem? hi
    have hi0 : i ≠ 0 := fun e => (List.nodup_cons.1 ho.nd).1 (e ▸ him)
    have hri : Rch s (-1) i := (ho.mem i).1 (List.mem_cons_of_mem _ him)
    have hn := (g1.step (ch := ch) (P := P) hG ho hi).kn i (by
      have hk2 : (0 :: l)[k + 1]? = some i := by simpa using hi
      rw [snoc_take hk2]; simp)
    simp only [List.foldl_cons, List.foldl_nil]
    have hil : i < y.length := by rw [g1.len]; exact hri.lt hG.wf
    revert hn
    unfold stepR
    simp only
    split
    · intro _; exact g3 v hv
    · intro hn
      have hg : ∀ w x, (y.set i x).getD w 0 = if w = i then x else y.getD w 0 := fun w x => getD0_set hil
      rw [hg, if_pos rfl] at hn
      rw [hg]
      split
      · exact hn
      · exact g3 v hv
theorem St.next {s P : List (List Nat)} {l : List Nat} {od id : List Int} {T : Nat} (hG : GrP s P) (ho : OrdOk s (0 :: l)) (h : St s l od id T) : St s l od (roundT od P id l).1 (T + 1) := by
  obtain ⟨g1, g2, _⟩ := St.part hG ho h l.length (Nat.le_refl _)
  have e : (l.take l.length).foldl (stepR od P) (id, false) = roundT od P id l := by rw [List.take_length]; rfl
  rw [e] at g1 g2
  have hk : ∀ v, Rch s (-1) v → 0 ≤ (roundT od P id l).1.getD v 0 := fun v hv => g1.kn v (by
    rw [List.take_of_length_le (by simp)]
    exact (ho.mem v).2 hv)
  refine ⟨⟨g1.di, g1.ge, g1.len, fun v hv => ?_⟩, fun j d hj vj hc t ns ht hp => ?_, .inr hk⟩
  · have hv : v = 0 := by simpa using hv
    subst hv
    exact hk 0 ((ho.mem 0).1 (by simp))
  · by_cases hj0 : j = 0
    · subst hj0
      rw [cn_zero hc]
      exact hp.mem
    · refine g2 j d hj vj hc t ns ?_ hp
      unfold tauK
      have hjl := (ho.mem j).2 (g1.di.rch j hj vj)
      rcases List.mem_cons.1 hjl with e | e
      · exact absurd e hj0
      · rw [List.take_length, if_pos e]
        exact ht
theorem St.all {s P : List (List Nat)} {l : List Nat} (hG : GrP s P) (ho : OrdOk s (0 :: l)) (h0 : 0 < s.length) (hs : s.length < 1000000) : ∀ T, St s l (odT s.length (0 :: l)) (seqT s.length (odT s.length (0 :: l)) P l T) T
  | 0 => ⟨RI.init hG ho h0 hs, fun j d _ _ _ t ns ht => absurd ht (Nat.not_lt_zero _), .inl rfl⟩
  | T + 1 => (St.all hG ho h0 hs T).next hG ho
theorem pth_of {s : List (List Nat)} {od : List Int} {d j : Nat} (h : Rch s (d : Int) j) : ∃ t ns, Pth s od t ns j ∧ d ∉ ns := by
  induction h with
  | base _ h => exact ⟨0, [0], .zero, by simp; omega⟩
  | @step a b _ hb hn ih =>
    obtain ⟨t, ns, h1, h2⟩ := ih
    have hnd : d ∉ b :: ns := by
      simp only [List.mem_cons, not_or]
      exact ⟨by omega, h2⟩
    by_cases e : placeT od a < placeT od b
    · exact ⟨t, b :: ns, .adv h1 hb e, hnd⟩
    · exact ⟨t + 1, b :: ns, .ret h1 hb e, hnd⟩
def Bnd (s : List (List Nat)) (od : List Int) (M : Nat) : Prop := ∀ j, j < s.length → ∀ d, d < s.length → Rch s (d : Int) j → ∃ t ns, t < M ∧ Pth s od t ns j ∧ d ∉ ns
theorem bnd_ex (s : List (List Nat)) (od : List Int) : ∃ M, Bnd s od M := by
  obtain ⟨t, ht⟩ := bound_all (Q := fun j M => ∀ d, d < s.length → Rch s (d : Int) j → ∃ t ns, t < M ∧ Pth s od t ns j ∧ d ∉ ns) s.length fun j hj => by
    obtain ⟨t, ht⟩ := bound_all (Q := fun d M => Rch s (d : Int) j → ∃ t ns, t < M ∧ Pth s od t ns j ∧ d ∉ ns) s.length fun d hd => by
      by_cases h : Rch s (d : Int) j
      · obtain ⟨t, ns, h1, h2⟩ := pth_of (od := od) h
        exact ⟨t + 1, fun m hm _ => ⟨t, ns, by omega, h1, h2⟩⟩
      · exact ⟨0, fun m _ hr => absurd hr h⟩
    exact ⟨t, fun m hm d hd => ht d hd m hm⟩
  exact ⟨t, fun j hj => ht j hj t (Nat.le_refl _)⟩
def Exact (s : List (List Nat)) (id : List Int) : Prop := ∀ j d, j < id.length → 0 ≤ id.getD j 0 → (Cn id j d ↔ d = j ∨ ¬ Rch s (d : Int) j)
theorem exact_of {s : List (List Nat)} {l : List Nat} {od id : List Int} {tau : Nat → Nat} {M : Nat} (h : DI s l od id) (hlen : id.length = s.length) (hb : Bnd s od M) (hP : PI s od id tau) (ht : ∀ j, M ≤ tau j) : Exact s id := fun j d hj vj => by
  refine ⟨fun hc => ?_, fun hd => h.A j d hj vj hd⟩
  by_cases e : d = j
  · exact .inl e
  · refine .inr fun hr => ?_
    have hdl := (cn_place h hc hj vj).2.1
    obtain ⟨t, ns, h1, h2, h3⟩ := hb j (by omega) d (by omega) hr
    exact h3 (hP j d hj vj hc t ns (by have := ht j; omega) h2)
theorem same_up {s : List (List Nat)} {l : List Nat} {od id id' : List Int} (h : DI s l od id) (h' : DI s l od id') (hl : id'.length = id.length) {i : Nat} (hi : i < id.length) (hi0 : i ≠ 0) (vi : 0 ≤ id.getD i 0) (vi' : 0 ≤ id'.getD i 0) (he : ∀ d, Cn id i d ↔ Cn id' i d) : upT id i = upT id' i := by
  have half : ∀ {id id' : List Int}, DI s l od id → DI s l od id' → id'.length = id.length → i < id.length → 0 ≤ id.getD i 0 → 0 ≤ id'.getD i 0 → (∀ d, Cn id i d → Cn id' i d) → placeT od (upT id i) ≤ placeT od (upT id' i) := by
    intro id id' h h' hl hi vi vi' he
    obtain ⟨u1, u2, u3, u4⟩ := h.tw.up i hi vi (pos_of h hi vi hi0)
    obtain ⟨w1, w2, w3, w4⟩ := h'.tw.up i (by omega) vi' (pos_of h' (by omega) vi' hi0)
    have hc := he _ (.up hi0 vi (.refl _))
    generalize upT id i = u at hc u1 u2 u3 u4
    cases hc with
    | refl => omega
    | up _ _ hc => exact (cn_place h' hc w3 w4).1
  have e1 := half h h' hl hi vi vi' fun d => (he d).1
  have e2 := half h' h hl.symm (by omega) vi' vi fun d => (he d).2
  obtain ⟨u1, u2, u3, u4⟩ := h.tw.up i hi vi (pos_of h hi vi hi0)
  obtain ⟨w1, w2, w3, w4⟩ := h'.tw.up i (by omega) vi' (pos_of h' (by omega) vi' hi0)
  exact h.pl.inj _ _ (h.rch _ u3 u4) (h'.rch _ w3 w4) (by omega)
theorem St.fix {s P : List (List Nat)} {l : List Nat} {od id : List Int} {T M : Nat} (hG : GrP s P) (ho : OrdOk s (0 :: l)) (h : St s l od id T) (hb : Bnd s od M) (hM : M ≤ T) (hT : 0 < T) : ∀ k, k ≤ l.length → (l.take k).foldl (stepR od P) (id, false) = (id, false)
  | 0, _ => rfl
  | k + 1, hk => by
    have ih := St.fix hG ho h hb hM hT k (by omega)
    obtain ⟨g1, g2, g3⟩ := St.part hG ho h (P := P) (k + 1) hk
    have hi : l[k]? = some l[k] := List.getElem?_eq_getElem (by omega)
    generalize l[k] = i at hi
    rw [snoc_take hi, List.foldl_append, ih] at g1 g2 ⊢
    simp only [List.foldl_cons, List.foldl_nil] at g1 g2 ⊢
    have him : i ∈ l := List.mem_of_getElem? hi
    have hi0 : i ≠ 0 := fun e => (List.nodup_cons.1 ho.nd).1 (e ▸ him)
    have hri : Rch s (-1) i := (ho.mem i).1 (List.mem_cons_of_mem _ him)
    have hil : i < id.length := by rw [h.ri.len]; exact hri.lt hG.wf
    have vi : 0 ≤ id.getD i 0 := (h.kn.resolve_left (by omega)) i hri
    have vi' := g1.kn i (by
      have hk2 : (0 :: l)[k + 1]? = some i := by simpa using hi
      rw [snoc_take hk2]; simp)
    have E1 := exact_of h.ri.di h.ri.len hb h.pi fun _ => hM
    have E2 := exact_of g1.di g1.len hb g2 fun j => by unfold tauK; split <;> omega
    have hu := same_up h.ri.di g1.di (by rw [g1.len, h.ri.len]) hil hi0 vi vi' fun d => (E1 i d hil vi).trans (E2 i d (by rw [g1.len, ← h.ri.len]; exact hil) vi').symm
    revert hu vi'
    unfold stepR
    simp only
    split
    · intro _ _; rfl
    · rename_i hne
      intro vi' hu
      exfalso
      apply hne
      have hg : (id.set i (bestT id od (P.getD i []))).getD i 0 = bestT id od (P.getD i []) := by rw [getD0_set hil, if_pos rfl]
      unfold upT at hu
      simp only [hg] at hu vi'
      rw [getD01 hil] at hu vi
      omega
theorem flag_fix {od : List Int} {P : List (List Nat)} : ∀ {l : List Nat} {x : List Int × Bool}, (l.foldl (stepR od P) x).2 = false → l.foldl (stepR od P) x = x ∧ x.2 = false
  | [], x, h => ⟨rfl, h⟩
  | a :: l, x, h => by
    rw [List.foldl_cons] at h ⊢
    obtain ⟨h1, h2⟩ := flag_fix h
    rw [h1]
    revert h2
    unfold stepR
    split
    · intro h2; exact ⟨rfl, h2⟩
    · intro h2; cases h2
/-- The tree, once it is made. -/
structure DTree (s : List (List Nat)) (l : List Nat) (od id : List Int) : Prop where
  di : DI s l od id
  ge : ∀ p, -1 ≤ id.getD p (-1)
  len : id.length = s.length
  kn : ∀ v, Rch s (-1) v → 0 ≤ id.getD v 0
  ex : Exact s id
theorem dom_ends {s P : List (List Nat)} {l : List Nat} (hG : GrP s P) (ho : OrdOk s (0 :: l)) (h0 : 0 < s.length) (hs : s.length < 1000000) : ∃ N, ((∀ k, k < N → (roundT (odT s.length (0 :: l)) P (seqT s.length (odT s.length (0 :: l)) P l k) l).2 = true) ∧ (roundT (odT s.length (0 :: l)) P (seqT s.length (odT s.length (0 :: l)) P l N) l).2 = false ∧ (roundT (odT s.length (0 :: l)) P (seqT s.length (odT s.length (0 :: l)) P l N) l).1 = seqT s.length (odT s.length (0 :: l)) P l N)
    ∧ (∀ j, j ≤ N → ∀ k, k ≤ l.length → TrW ((l.take k).foldl (stepR (odT s.length (0 :: l)) P) (seqT s.length (odT s.length (0 :: l)) P l j, false)).1 (odT s.length (0 :: l)) ∧ ∀ p, -1 ≤ ((l.take k).foldl (stepR (odT s.length (0 :: l)) P) (seqT s.length (odT s.length (0 :: l)) P l j, false)).1.getD p (-1))
    ∧ DTree s l (odT s.length (0 :: l)) (seqT s.length (odT s.length (0 :: l)) P l N) := by
  have hall := St.all hG ho h0 hs
  generalize odT s.length (0 :: l) = od at hall ⊢
  obtain ⟨M, hM⟩ := bnd_ex s od
  have hfix : (roundT od P (seqT s.length od P l (M + 1)) l).2 = false := by
    have := (hall (M + 1)).fix hG ho hM (by omega) (by omega) l.length (Nat.le_refl _)
    rw [List.take_length] at this
    exact congrArg (·.2) this
  obtain ⟨N, h1, h2⟩ := exists_least (p := fun k => (roundT od P (seqT s.length od P l k) l).2 = false) _ hfix
  have hst : (roundT od P (seqT s.length od P l N) l).1 = seqT s.length od P l N := congrArg (·.1) (flag_fix h1).1
  have hrep : ∀ j, seqT s.length od P l (N + j) = seqT s.length od P l N := fun j => by
    induction j with
    | zero => rfl
    | succ j ih =>
      show (roundT od P (seqT s.length od P l (N + j)) l).1 = _
      rw [ih, hst]
  have hS := hall (N + (M + 1))
  rw [hrep] at hS
  refine ⟨N, ⟨fun k hk => by simpa using h2 k hk, h1, hst⟩, fun j _ k hk => ?_, hS.ri.di, hS.ri.ge, hS.ri.len, hS.kn.resolve_left (by omega), exact_of hS.ri.di hS.ri.len hM hS.pi fun _ => by omega⟩
  obtain ⟨g1, _, _⟩ := (hall j).part (P := P) hG ho k hk
  exact ⟨g1.di.tw, g1.ge⟩
end Go.Proofs.Yticjemfgbfphdaa.X
/- Dominators, plain: what the tree answers. -/
namespace Go.Proofs.Yticjemfgbfphdaa.X
open Go Go.AM
open Go.Bits
set_option linter.unusedVariables false
theorem isD_iff {s : List (List Nat)} {a b : Nat} : isD s a b = true ↔ Rch s (-1) b ∧ (a = b ∨ ¬ Rch s (a : Int) b) := by
  unfold isD
  simp
theorem isD_zero {s : List (List Nat)} {d : Nat} (h0 : 0 < s.length) : isD s d 0 = true ↔ d = 0 := by
  rw [isD_iff]
  refine ⟨fun ⟨_, h⟩ => h.elim (fun e => e) fun h => ?_, fun e => ⟨.base h0 (by omega), .inl e⟩⟩
  by_cases e : d = 0
  · exact e
  · exact absurd (.base h0 (by omega)) h
/-- The tree as it is handed out. -/
structure DT (s : List (List Nat)) (od id : List Int) : Prop where
  len : id.length = s.length
  ol : od.length = s.length
  small : s.length < 1000000
  wf : WFs s
  mem : ∀ v, 0 ≤ placeT od v ↔ Rch s (-1) v
  neg : ∀ v, ¬ Rch s (-1) v → placeT od v = -1
  root : 0 < s.length → id.getD 0 (-1) = -1
  up : ∀ j, Rch s (-1) j → j ≠ 0 → ∃ u : Nat, id.getD j (-1) = (u : Int) ∧ Rch s (-1) u ∧ placeT od u < placeT od j ∧ ∀ d, isD s d j = true ↔ d = j ∨ isD s d u = true
  out : ∀ j, ¬ Rch s (-1) j → id.getD j (-1) = -1
  le : ∀ d j, isD s d j = true → placeT od d ≤ placeT od j ∧ Rch s (-1) d
theorem dt_of {s : List (List Nat)} {l : List Nat} {od id : List Int} (h : DTree s l od id) (hw : WFs s) (h0 : 0 < s.length) (hs : s.length < 1000000) : DT s od (id.set 0 (-1)) := by
  have hil : 0 < id.length := by rw [h.len]; exact h0
  have hlt : ∀ v, Rch s (-1) v → v < id.length := fun v hv => by rw [h.len]; exact hv.lt hw
  have hiff : ∀ d j, Rch s (-1) j → (isD s d j = true ↔ Cn id j d) := fun d j hj => by
    rw [isD_iff, h.ex j d (hlt j hj) (h.kn j hj)]
    exact ⟨fun hh => hh.2, fun hh => ⟨hj, hh⟩⟩
  refine ⟨by rw [List.length_set]; exact h.len, h.di.pl.len, hs, hw, h.di.pl.mem, h.di.pl.neg, fun _ => by rw [getDi_set hil, if_pos rfl], fun j hj hj0 => ?_, fun j hj => ?_, fun d j hd => ?_⟩
  · have hjl := hlt j hj
    have vj := h.kn j hj
    obtain ⟨u1, u2, u3, u4⟩ := h.di.tw.up j hjl vj (pos_of h.di hjl vj hj0)
    have hru := h.di.rch _ u3 u4
    refine ⟨upT id j, ?_, hru, u2, fun d => ?_⟩
    · rw [getDi_set hil, if_neg hj0, ← getD01 hjl]
      unfold upT
      omega
    · rw [hiff d j hj, hiff d _ hru]
      constructor
      · intro hc
        cases hc with
        | refl => exact .inl rfl
        | up _ _ hc => exact .inr hc
      · rintro (e | hc)
        · rw [e]; exact .refl _
        · exact .up hj0 vj hc
  · by_cases e : j = 0
    · subst e; rw [getDi_set hil, if_pos rfl]
    · rw [getDi_set hil, if_neg e]
      by_cases hl : j < id.length
      · have hh : ¬ 0 ≤ id.getD j 0 := fun hh => hj (h.di.rch j hl hh)
        rw [getD01 hl] at hh
        have := h.ge j
        omega
      · simp [List.getD_eq_getElem?_getD, List.getElem?_eq_none (show id.length ≤ j by omega)]
  · have hj := (isD_iff.1 hd).1
    have := cn_place h.di ((hiff d j hj).1 hd) (hlt j hj) (h.kn j hj)
    exact ⟨this.1, h.di.rch d this.2.1 this.2.2⟩
theorem dt_nil : DT [] [] [] := by
  have hr : ∀ v, ¬ Rch [] (-1) v := fun v h => by have := h.zero.1; simp at this
  refine ⟨rfl, rfl, by simp, fun a b h => by simp at h, fun v => ⟨fun h => ?_, fun h => absurd h (hr v)⟩, fun v _ => rfl, fun h => by simp at h, fun j h => absurd h (hr j), fun j _ => rfl, fun d j h => absurd (isD_iff.1 h).1 (hr j)⟩
  simp [placeT] at h
theorem inT_iff {s : List (List Nat)} {od id : List Int} (h : DT s od id) (v : Nat) : inT od (v : Int) = true ↔ Rch s (-1) v := by
  rw [← h.mem v]
  unfold inT
  simp only [Bool.and_eq_true, decide_eq_true_eq, bne_iff_ne, ne_eq, Int.toNat_natCast]
  have e : od.getD v (-1) = placeT od v := rfl
  rw [e]
  constructor
  · rintro ⟨_, _, h3⟩
    by_cases hr : Rch s (-1) v
    · exact (h.mem v).2 hr
    · exact absurd (h.neg v hr) h3
  · intro hp
    have := ((h.mem v).1 hp).lt h.wf
    have := h.ol
    omega
theorem inT_neg {od : List Int} {i : Int} (h : i < 0) : inT od i = false := by
  unfold inT
  rw [decide_eq_false (by omega)]
  rfl
theorem isD_trans {s : List (List Nat)} {od id : List Int} (h : DT s od id) {d a : Nat} (hda : isD s d a = true) : ∀ (n : Nat) (u : Nat), (placeT od u).toNat ≤ n → isD s a u = true → isD s d u = true := by
  intro n
  induction n with
  | zero =>
    intro u hn hau
    by_cases hu : u = 0
    · subst hu
      have := (isD_iff.1 hau).1.lt h.wf
      rw [(isD_zero (by omega)).1 hau] at hda
      exact hda
    · obtain ⟨w, _, h2, h3, h4⟩ := h.up u (isD_iff.1 hau).1 hu
      have := (h.mem w).2 h2
      omega
  | succ n ih =>
    intro u hn hau
    by_cases hu : u = 0
    · subst hu
      have := (isD_iff.1 hau).1.lt h.wf
      rw [(isD_zero (by omega)).1 hau] at hda
      exact hda
    · obtain ⟨w, _, h2, h3, h4⟩ := h.up u (isD_iff.1 hau).1 hu
      rcases (h4 a).1 hau with e | haw
      · subst e; exact hda
      · exact (h4 d).2 (.inr (ih w (by omega) haw))
theorem DT.trans {s : List (List Nat)} {od id : List Int} (h : DT s od id) {d a u : Nat} (h1 : isD s d a = true) (h2 : isD s a u = true) : isD s d u = true := isD_trans h h1 _ u (Nat.le_refl _) h2
theorem DT.lt {s : List (List Nat)} {od id : List Int} (h : DT s od id) {a u : Nat} (h1 : isD s a u = true) (hne : a ≠ u) : placeT od a < placeT od u := by
  have hr := (isD_iff.1 h1).1
  by_cases hu : u = 0
  · subst hu
    exact absurd ((isD_zero (hr.lt h.wf)).1 h1) hne
  · obtain ⟨w, _, h2, h3, h4⟩ := h.up u hr hu
    have := h.le a w (((h4 a).1 h1).resolve_left hne)
    omega
theorem chain_ex {s : List (List Nat)} {od id : List Int} (h : DT s od id) : ∀ (n : Nat) (v : Nat), Rch s (-1) v → (placeT od v).toNat ≤ n → ∃ L, Chn id od (v : Int) L ∧ L.Nodup ∧ ∀ d, d ∈ L ↔ isD s d v = true := by
  intro n
  induction n with
  | zero =>
    intro v hv hn
    by_cases h0 : v = 0
    · subst h0
      have hl := hv.lt h.wf
      refine ⟨[0], .cons ((inT_iff h 0).2 hv) (.nil ?_), by simp, fun d => by rw [isD_zero hl]; simp⟩
      unfold idT
      rw [if_pos ((inT_iff h 0).2 hv)]
      have := h.root hl
      rw [Int.toNat_natCast, this]
      exact inT_neg (by omega)
    · obtain ⟨u, _, h2, h3, _⟩ := h.up v hv h0
      have := (h.mem u).2 h2
      omega
  | succ n ih =>
    intro v hv hn
    by_cases h0 : v = 0
    · subst h0
      have hl := hv.lt h.wf
      refine ⟨[0], .cons ((inT_iff h 0).2 hv) (.nil ?_), by simp, fun d => by rw [isD_zero hl]; simp⟩
      unfold idT
      rw [if_pos ((inT_iff h 0).2 hv)]
      have := h.root hl
      rw [Int.toNat_natCast, this]
      exact inT_neg (by omega)
    · obtain ⟨u, h1, h2, h3, h4⟩ := h.up v hv h0
      obtain ⟨L, g1, g2, g3⟩ := ih u h2 (by omega)
      refine ⟨v :: L, .cons ((inT_iff h v).2 hv) ?_, List.nodup_cons.2 ⟨fun hm => ?_, g2⟩, fun d => ?_⟩
      · unfold idT
        rw [if_pos ((inT_iff h v).2 hv), Int.toNat_natCast, h1]
        exact g1
      · have := (h.le v u ((g3 v).1 hm)).1
        omega
      · rw [List.mem_cons, g3, h4]
theorem nodup_same {a b : List Nat} (ha : a.Nodup) (hb : b.Nodup) (h : ∀ x, x ∈ a ↔ x ∈ b) : a.length = b.length := Nat.le_antisymm (ha.length_le_of_subset fun x hx => (h x).1 hx) (hb.length_le_of_subset fun x hx => (h x).2 hx)
theorem isD_lt {s : List (List Nat)} {od id : List Int} (h : DT s od id) {a b : Nat} (hd : isD s a b = true) : a < s.length := (h.le a b hd).2.lt h.wf
/-- The way up from any block. -/
theorem DT.chain {s : List (List Nat)} {od id : List Int} (h : DT s od id) (v : Nat) : ∃ L, Chn id od (v : Int) L ∧ (∀ d, d ∈ L ↔ isD s d v = true) ∧ L.length = cntD s v ∧ L.length < 1000000 := by
  have hfn : ((List.range s.length).filter fun a => isD s a v).Nodup := (List.nodup_range).filter _
  have hle : ((List.range s.length).filter fun a => isD s a v).length ≤ s.length := by
    have := List.length_filter_le (fun a => isD s a v) (List.range s.length)
    rwa [List.length_range] at this
  have hsm := h.small
  by_cases hv : Rch s (-1) v
  · obtain ⟨L, h1, h2, h3⟩ := chain_ex h _ v hv (Nat.le_refl _)
    have e : L.length = cntD s v := nodup_same h2 hfn fun x => by
      rw [h3, List.mem_filter, List.mem_range]
      exact ⟨fun hx => ⟨isD_lt h hx, hx⟩, fun hx => hx.2⟩
    refine ⟨L, h1, h3, e, ?_⟩
    rw [e]
    unfold cntD
    omega
  · have hno : ∀ d, ¬ isD s d v = true := fun d hd => hv (isD_iff.1 hd).1
    refine ⟨[], .nil ?_, fun d => ⟨fun hd => (by cases hd), fun hd => absurd hd (hno d)⟩, ?_, by simp⟩
    · rw [Bool.eq_false_iff]
      exact fun hh => hv ((inT_iff h v).1 hh)
    · unfold cntD
      rw [List.filter_eq_nil_iff.2 fun a _ => hno a]
theorem cnt_lt {s : List (List Nat)} {od id : List Int} (h : DT s od id) {a u : Nat} (hd : isD s a u = true) (hne : a ≠ u) : cntD s a < cntD s u := by
  unfold cntD
  have hfn : ((List.range s.length).filter fun d => isD s d a).Nodup := (List.nodup_range).filter _
  have hu : u ∉ (List.range s.length).filter fun d => isD s d a := fun hm => by
    have := h.le u a (List.mem_filter.1 hm).2
    have := h.lt hd hne
    omega
  have := (List.nodup_cons.2 ⟨hu, hfn⟩).length_le_of_subset (l₂ := (List.range s.length).filter fun d => isD s d u) fun x hx => by
    have hru := (isD_iff.1 hd).1
    rcases List.mem_cons.1 hx with rfl | hx
    · exact List.mem_filter.2 ⟨List.mem_range.2 (hru.lt h.wf), isD_iff.2 ⟨hru, .inl rfl⟩⟩
    · have hx := (List.mem_filter.1 hx).2
      exact List.mem_filter.2 ⟨List.mem_range.2 (isD_lt h hx), h.trans hx hd⟩
  rw [List.length_cons] at this
  omega
theorem fold_none {s : List (List Nat)} {b : Nat} (h : ∀ a, a ≠ b → ¬ isD s a b = true) : ∀ n, foldD s b n = (-1, 0)
  | 0 => rfl
  | n + 1 => by
    rw [foldD_succ, fold_none h n, stepD, if_neg]
    rintro ⟨h1, h2, _⟩
    exact h n h1 h2
theorem fold_some {s : List (List Nat)} {b u : Nat} (hu : u ≠ b) (hd : isD s u b = true) (hp : 0 < cntD s u) (h : ∀ a, a ≠ b → a ≠ u → isD s a b = true → cntD s a < cntD s u) : ∀ n, (n ≤ u → (foldD s b n).2 < cntD s u) ∧ (u < n → foldD s b n = ((u : Int), cntD s u))
  | 0 => ⟨fun _ => hp, fun hh => by omega⟩
  | n + 1 => by
    obtain ⟨g1, g2⟩ := fold_some hu hd hp h n
    rw [foldD_succ]
    unfold stepD
    refine ⟨fun hn => ?_, fun hn => ?_⟩
    · split
      · rename_i hc
        exact h n hc.1 (by omega) hc.2.1
      · exact g1 (by omega)
    · by_cases e : n = u
      · subst e
        rw [if_pos ⟨hu, hd, g1 (Nat.le_refl _)⟩]
      · rw [g2 (by omega), if_neg]
        rintro ⟨h1, h2, h3⟩
        have := h n h1 e h2
        simp only at h3
        omega
theorem DT.cnt_pos {s : List (List Nat)} {od id : List Int} (h : DT s od id) {v : Nat} (hv : Rch s (-1) v) : 0 < cntD s v := by
  unfold cntD
  apply List.length_pos_of_mem (a := v)
  exact List.mem_filter.2 ⟨List.mem_range.2 (hv.lt h.wf), isD_iff.2 ⟨hv, .inl rfl⟩⟩
theorem DT.idom {s : List (List Nat)} {od id : List Int} (h : DT s od id) (b : Nat) : id.getD b (-1) = idomR s b ∧ idT id od (b : Int) = idomR s b := by
  have key : id.getD b (-1) = idomR s b := by
    unfold idomR
    by_cases hb : Rch s (-1) b
    · by_cases h0 : b = 0
      · subst h0
        have hl := hb.lt h.wf
        rw [fold_none (fun a ha hd => ha ((isD_zero hl).1 hd)), h.root hl]
      · obtain ⟨u, h1, h2, h3, h4⟩ := h.up b hb h0
        have hub : u ≠ b := fun e => by subst e; omega
        have hdu : isD s u b = true := (h4 u).2 (.inr (isD_iff.2 ⟨h2, .inl rfl⟩))
        rw [(fold_some hub hdu (h.cnt_pos h2) (fun a h5 h6 h7 => cnt_lt h (((h4 a).1 h7).resolve_left h5) h6) s.length).2 (isD_lt h hdu), h1]
    · rw [fold_none (fun a _ hd => hb (isD_iff.1 hd).1), h.out b hb]
  refine ⟨key, ?_⟩
  unfold idT
  split
  · rw [Int.toNat_natCast]; exact key
  · rename_i hn
    rw [inT_iff h] at hn
    rw [← key, h.out b hn]
theorem DT.kids {s : List (List Nat)} {od id : List Int} (h : DT s od id) (b : Nat) : kidsL id od (b : Int) = (List.range s.length).filter fun a => decide (idomR s a = (b : Int)) := by
  have e : (List.range s.length).filter (fun a => decide (idomR s a = (b : Int))) = kidsT id (b : Int) id.length := by
    unfold kidsT
    rw [h.len]
    congr 1
    funext a
    rw [(h.idom a).1]
  unfold kidsL
  split
  · exact e.symm
  · rename_i hn
    rw [inT_iff h] at hn
    symm
    rw [List.filter_eq_nil_iff]
    intro a _ ha
    have ha : idomR s a = (b : Int) := by simpa using ha
    rw [← (h.idom a).1] at ha
    by_cases hr : Rch s (-1) a
    · by_cases h0 : a = 0
      · subst h0
        rw [h.root (hr.lt h.wf)] at ha
        omega
      · obtain ⟨u, h1, h2, _⟩ := h.up a hr h0
        rw [h1] at ha
        exact hn (by rwa [show u = b by omega] at h2)
    · rw [h.out a hr] at ha
      omega
theorem DT.kid {s : List (List Nat)} {od id : List Int} (h : DT s od id) {b w : Nat} : w ∈ kidsL id od (b : Int) ↔ w < s.length ∧ id.getD w (-1) = (b : Int) := by
  rw [h.kids, List.mem_filter, List.mem_range, (h.idom w).1]
  simp
theorem DT.kid_up {s : List (List Nat)} {od id : List Int} (h : DT s od id) {b w : Nat} (hw : w ∈ kidsL id od (b : Int)) : Rch s (-1) w ∧ placeT od b < placeT od w ∧ ∀ d, isD s d w = true ↔ d = w ∨ isD s d b = true := by
  obtain ⟨hl, he⟩ := h.kid.1 hw
  by_cases hr : Rch s (-1) w
  · by_cases h0 : w = 0
    · subst h0
      rw [h.root hl] at he
      omega
    · obtain ⟨u, h1, h2, h3, h4⟩ := h.up w hr h0
      rw [h1] at he
      have : u = b := by omega
      subst this
      exact ⟨hr, h3, h4⟩
  · rw [h.out w hr] at he
    omega
/-- All below a block: while one goes. -/
structure WI (s : List (List Nat)) (od id : List Int) (i : Nat) (x : List Nat × List Bool) (D : List Nat) : Prop where
  nd : (D ++ x.1).Nodup
  bs : ∀ v, x.2.getD v false = true ↔ v ∈ D
  bl : x.2.length = s.length
  dom : ∀ v ∈ D ++ x.1, isD s i v = true
  kids : ∀ v ∈ D, ∀ w ∈ kidsL id od (v : Int), w ∈ D ++ x.1
  par : ∀ w ∈ D ++ x.1, w ≠ i → ∃ v ∈ D, w ∈ kidsL id od (v : Int)
  top : Rch s (-1) i → i ∈ D ++ x.1
theorem WI.step {s : List (List Nat)} {od id : List Int} {i k : Nat} {r : List Nat} {b : List Bool} {D : List Nat} (h : DT s od id) (hw : WI s od id i (k :: r, b) D) : WI s od id i (stepW id od (k :: r, b)) (D ++ [k]) := by
  obtain ⟨nd, bs, bl, dom, kids, par, top⟩ := hw
  simp only at nd bs bl dom kids par top
  have hkd := dom k (by simp)
  have hkl : k < s.length := (isD_iff.1 hkd).1.lt h.wf
  have hkD : k ∉ D := fun hm => by
    rw [List.nodup_append] at nd
    exact nd.2.2 k hm k (by simp) rfl
  have e : D ++ [k] ++ (r ++ kidsL id od (k : Int)) = (D ++ k :: r) ++ kidsL id od (k : Int) := by simp
  have hin : inB b (k : Int) = true := by simp [inB]; omega
  have hst : stepW id od (k :: r, b) = (r ++ kidsL id od (k : Int), b.set k true) := by
    simp only [stepW, addS, hin, if_true, Int.toNat_natCast]
  rw [hst]
  have hkn : (kidsL id od (k : Int)).Nodup := by rw [h.kids]; exact (List.nodup_range).filter _
  refine ⟨?_, fun v => ?_, by simp [bl], fun v hv => ?_, fun v hv w hvw => ?_, fun w hv hwi => ?_, fun hr => ?_⟩
  · simp only
    rw [e, List.nodup_append]
    refine ⟨nd, hkn, fun a ha c hc hac => ?_⟩
    subst hac
    obtain ⟨q1, q2, q3⟩ := h.kid_up hc
    by_cases hai : a = i
    · subst hai
      have := (h.le a k hkd).1
      omega
    · obtain ⟨v, hv, hav⟩ := par a ha hai
      have e1 := (h.kid.1 hc).2
      have e2 := (h.kid.1 hav).2
      rw [e1] at e2
      exact hkD (by rw [show k = v by omega]; exact hv)
  · simp only
    rw [getDb_set _ _ _ (by rw [bl]; exact hkl)]
    split
    · rename_i e; subst e; simp
    · rename_i e; rw [bs]; simp [e]
  · simp only [e] at hv
    rcases List.mem_append.1 hv with hv | hv
    · exact dom v hv
    · exact ((h.kid_up hv).2.2 i).2 (.inr hkd)
  · simp only [e]
    rcases List.mem_append.1 hv with hv | hv
    · exact List.mem_append_left _ (kids v hv w hvw)
    · rw [List.mem_singleton.1 hv] at hvw
      exact List.mem_append_right _ hvw
  · simp only [e] at hv
    rcases List.mem_append.1 hv with hv | hv
    · obtain ⟨v, hv, hw⟩ := par w hv hwi
      exact ⟨v, by simp [hv], hw⟩
    · exact ⟨k, by simp, hv⟩
  · simp only [e]
    exact List.mem_append_left _ (top hr)
theorem WI.start {s : List (List Nat)} {od id : List Int} (h : DT s od id) (i : Nat) : WI s od id i (startW od id.length i) [] := by
  have hb : ∀ v, ¬ (noneB id.length).getD v false = true := fun v => by
    simp only [noneB, List.getD_eq_getElem?_getD, List.getElem?_replicate]
    split <;> simp
  unfold startW
  refine ⟨?_, fun v => ⟨fun hh => absurd hh (hb v), fun hh => (by cases hh)⟩, by simp [noneB, h.len], fun v hv => ?_, fun v hv => (by cases hv), fun w hw hne => ?_, fun hr => ?_⟩
  · split <;> simp
  · simp only [List.nil_append] at hv
    split at hv
    · rename_i hin
      rw [List.mem_singleton.1 hv]
      exact isD_iff.2 ⟨(inT_iff h i).1 hin, .inl rfl⟩
    · cases hv
  · simp only [List.nil_append] at hw
    split at hw
    · exact absurd (List.mem_singleton.1 hw) hne
    · cases hw
  · rw [if_pos ((inT_iff h i).2 hr)]
    simp
theorem WI.iter {s : List (List Nat)} {od id : List Int} (h : DT s od id) (i : Nat) : ∀ k, ∃ D, WI s od id i (iterW id od (startW od id.length i) k) D ∧ ((iterW id od (startW od id.length i) k).1 = [] ∨ D.length = k)
  | 0 => ⟨[], WI.start h i, .inr rfl⟩
  | k + 1 => by
    obtain ⟨D, h1, h2⟩ := WI.iter h i k
    simp only [iterW]
    generalize iterW id od (startW od id.length i) k = x at h1 h2
    obtain ⟨W, b⟩ := x
    cases W with
    | nil => exact ⟨D, h1, .inl rfl⟩
    | cons a r => exact ⟨D ++ [a], h1.step h, .inr (by simp at h2 ⊢; exact h2)⟩
theorem WI.small {s : List (List Nat)} {od id : List Int} {i : Nat} {x : List Nat × List Bool} {D : List Nat} (h : DT s od id) (hw : WI s od id i x D) : (D ++ x.1).length ≤ s.length := nodup_le hw.nd fun v hv => (isD_iff.1 (hw.dom v hv)).1.lt h.wf
/-- All below a block. -/
theorem DT.below {s : List (List Nat)} {od id : List Int} (h : DT s od id) (i : Nat) : ∃ N, (iterW id od (startW od id.length i) N).1 = [] ∧ (∀ k, k ≤ N → (iterW id od (startW od id.length i) k).1.length < 1000000) ∧ (iterW id od (startW od id.length i) N).2.length = s.length ∧ ∀ a, (iterW id od (startW od id.length i) N).2.getD a false = isD s i a := by
  have hsm := h.small
  refine ⟨s.length + 1, ?_, fun k _ => ?_, ?_, fun a => ?_⟩
  · obtain ⟨D, h1, h2⟩ := WI.iter h i (s.length + 1)
    have := h1.small h
    rw [List.length_append] at this
    rcases h2 with h2 | h2
    · exact h2
    · omega
  · obtain ⟨D, h1, h2⟩ := WI.iter h i k
    have := h1.small h
    rw [List.length_append] at this
    omega
  · obtain ⟨D, h1, h2⟩ := WI.iter h i (s.length + 1)
    exact h1.bl
  · obtain ⟨D, h1, h2⟩ := WI.iter h i (s.length + 1)
    have hsm2 := h1.small h
    rw [List.length_append] at hsm2
    have hW : (iterW id od (startW od id.length i) (s.length + 1)).1 = [] := by
      rcases h2 with h2 | h2
      · exact h2
      · omega
    generalize iterW id od (startW od id.length i) (s.length + 1) = x at h1 hW
    obtain ⟨W, b⟩ := x
    simp only at hW
    subst hW
    obtain ⟨nd, bs, bl, dom, kids, par, top⟩ := h1
    simp only [List.append_nil] at nd bs bl dom kids par top
    have hall : ∀ (n : Nat) (v : Nat), (placeT od v).toNat ≤ n → isD s i v = true → v ∈ D := by
      intro n
      induction n with
      | zero =>
        intro v hn hd
        by_cases e : i = v
        · subst e; exact top (isD_iff.1 hd).1
        · have := h.lt hd e
          have := (h.mem i).2 (h.le i v hd).2
          omega
      | succ n ih =>
        intro v hn hd
        by_cases e : i = v
        · subst e; exact top (isD_iff.1 hd).1
        · have hr := (isD_iff.1 hd).1
          by_cases h0 : v = 0
          · subst h0
            exact absurd ((isD_zero (hr.lt h.wf)).1 hd) e
          · obtain ⟨u, q1, q2, q3, q4⟩ := h.up v hr h0
            have hu := ih u (by omega) (((q4 i).1 hd).resolve_left e)
            exact kids u hu v (h.kid.2 ⟨hr.lt h.wf, q1⟩)
    rw [Bool.eq_iff_iff]
    simp only
    rw [bs]
    exact ⟨fun hm => dom a hm, fun hd => hall _ a (Nat.le_refl _) hd⟩
end Go.Proofs.Yticjemfgbfphdaa.X
