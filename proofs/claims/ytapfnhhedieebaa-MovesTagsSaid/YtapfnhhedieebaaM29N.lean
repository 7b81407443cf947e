import Derived.Test.YtapfnhhedieebaaM29M
namespace Go.Proofs.Ytapfnhhedieebaa.X
open Go Go.AM Go.Proofs
set_option linter.unusedVariables false
set_option linter.unusedSimpArgs false
/-! The plain law of MovesTags: at which place a virtual register's value is told at last; and what stands in the instructions. -/
def stepO (v : Int) (p : Loc) (o : Opd) : Loc := if o.kind ≠ 0 ∧ o.tag = v then atO o else p
def opsO (x : Ins) : List Opd := if x.op = 27 then x.dst :: x.args else [x.dst]
def trk (v : Int) (p : Loc) (x : Ins) : Loc := (opsO x).foldl (stepO v) p
theorem one_op (m : Move) : (one m).op ≠ 27 := by
  unfold one
  simp only
  split
  · omega
  · split <;> omega
theorem trk_one {m : Move} (h : goodM m) (v : Int) (p : Loc) : trk v p (one m) = if m.v = v then m.to else p := by
  unfold trk opsO
  rw [if_neg (one_op m)]
  show stepO v p (put m.to m.v) = _
  unfold stepO
  have hk : (put m.to m.v).kind ≠ 0 := by
    show m.to.kind ≠ 0
    have := h.2.1
    omega
  have ht : (put m.to m.v).tag = m.v := rfl
  rw [ht]
  by_cases e : m.v = v
  · rw [if_pos ⟨hk, e⟩, if_pos e]
    rfl
  · rw [if_neg (fun h => e h.2), if_neg e]
theorem trk_swap {a b : Loc} (ha : a.kind ≠ 0) (hb : b.kind ≠ 0) (x y v : Int) (p : Loc) : trk v p (swapI a x b y) = if y = v then b else if x = v then a else p := by
  unfold trk opsO swapI
  rw [if_pos rfl]
  simp only [List.foldl_cons, List.foldl_nil]
  have h0 : stepO v p ⟨0, 0, 0, 0⟩ = p := by simp [stepO]
  rw [h0]
  have hk : (put a x).kind ≠ 0 := ha
  have hk2 : (put b y).kind ≠ 0 := hb
  have ht : (put a x).tag = x := rfl
  have ht2 : (put b y).tag = y := rfl
  have e1 : stepO v p (put a x) = if x = v then a else p := by
    unfold stepO
    rw [ht]
    by_cases e : x = v
    · rw [if_pos ⟨hk, e⟩, if_pos e]; rfl
    · rw [if_neg (fun h => e h.2), if_neg e]
  rw [e1]
  unfold stepO
  rw [ht2]
  by_cases e : y = v
  · rw [if_pos ⟨hk2, e⟩, if_pos e]; rfl
  · rw [if_neg (fun h => e h.2), if_neg e]
theorem kOf_any {p : Move → Bool} {l : List Move} (h : ∃ o ∈ l, p o = true) : kOf p l < l.length ∧ p l[kOf p l]! = true := by
  have h0 : l ≠ [] := by rintro rfl; obtain ⟨o, ho, _⟩ := h; cases ho
  refine ⟨kOf_lt h0, ?_⟩
  unfold kOf
  cases hh : l.findIdx? p with
  | none =>
    rw [List.findIdx?_eq_none_iff] at hh
    obtain ⟨o, ho, hp⟩ := h
    rw [hh o ho] at hp
    cases hp
  | some k =>
    obtain ⟨hk, hp, _⟩ := List.findIdx?_eq_some_iff_getElem.1 hh
    simp only [Option.getD_some]
    simpa [hk] using hp
theorem tags_F : ∀ (n : Nat) (f : List Move), f.length ≤ n → Inv f → (f.map (fun m => m.v)).Nodup → (f.map (fun m => m.fr)).Nodup →
    (∀ m ∈ f, (orderF n f).foldl (trk m.v) m.fr = m.to) ∧ (∀ v p, v ∉ f.map (fun m => m.v) → (orderF n f).foldl (trk v) p = p)
  | 0, f, hl, hI, hv, hn => by
    have : f = [] := List.length_eq_zero_iff.1 (by omega)
    subst this
    exact ⟨fun m hm => (List.not_mem_nil hm).elim, fun v p _ => rfl⟩
  | n + 1, f, hl, hI, hv, hn => by
    by_cases hf : f = []
    · subst hf
      have e0 : orderF (n + 1) [] = [] := by simp [orderF]
      rw [e0]
      exact ⟨fun m hm => (List.not_mem_nil hm).elim, fun v p _ => rfl⟩
    cases hi : f.findIdx? (open_ f) with
    | some j =>
      obtain ⟨hj, hp, _⟩ := List.findIdx?_eq_some_iff_getElem.1 hi
      have e' : f[j]! = f[j] := by simp [hj]
      have hperm := perm_idx hj
      simp only [orderF, if_neg hf, hi, List.foldl_cons]
      rw [e'] at hperm ⊢
      generalize f[j] = m at hp hperm ⊢
      have hmf : m ∈ f := hperm.mem_iff.2 List.mem_cons_self
      have hvp := map_cons_perm hperm (fun m => m.v)
      have hv2 := hvp.nodup_iff.1 hv
      have hn2 := (map_cons_perm hperm (fun m => m.fr)).nodup_iff.1 hn
      rw [List.nodup_cons] at hv2 hn2
      have hsub : ∀ o ∈ f.eraseIdx j, o ∈ f := fun o ho => hperm.mem_iff.2 (List.mem_cons_of_mem _ ho)
      have hlen := hperm.length_eq
      simp only [List.length_cons] at hlen
      obtain ⟨g1, g2⟩ := tags_F n (f.eraseIdx j) (by omega) (fun o ho => hI o (hsub o ho)) hv2.2 hn2.2
      refine ⟨fun o ho => ?_, fun v p hp => ?_⟩
      · rw [trk_one (hI m hmf).1]
        rcases List.mem_cons.1 (hperm.mem_iff.1 ho) with rfl | ho'
        · rw [if_pos rfl, g2 _ _ hv2.1]
        · have hne : m.v ≠ o.v := fun e => hv2.1 (List.mem_map.2 ⟨o, ho', e.symm⟩)
          rw [if_neg hne]
          exact g1 o ho'
      · have hp2 : v ∉ m.v :: (f.eraseIdx j).map (fun m => m.v) := fun h => hp (hvp.mem_iff.2 h)
        rw [List.mem_cons, not_or] at hp2
        rw [trk_one (hI m hmf).1, if_neg (Ne.symm hp2.1)]
        exact g2 v p hp2.2
    | none =>
      obtain ⟨j, hk, hj, hkj⟩ := pre_of hI hf hi
      have hjl : turnK f < f.length := kOf_lt hf
      have hm2 : (f[turnK f]!).fr.kind = 2 := by
        obtain ⟨hk', hp, _⟩ := List.findIdx?_eq_some_iff_getElem.1 hk
        rw [hj]
        have e' : f[j]! = f[j] := by simp [hk']
        rw [e']
        simpa using hp
      have hIl := inv_left (f := f) (m := f[turnK f]!) (k := turnK f) hI hm2
      have hperm := perm_idx hjl
      have ht : turnI f (turnK f) = swapI (f[turnK f]!).to (f[turnK f]!).v (f[turnK f]!).fr (f[kOf (fun o => decide (o.fr = (f[turnK f]!).to)) f]!).v := rfl
      simp only [orderF, if_neg hf, hi, List.foldl_cons]
      rw [ht]
      have hmf : f[turnK f]! ∈ f := hperm.mem_iff.2 List.mem_cons_self
      have hw := kOf_any (p := fun o => decide (o.fr = (f[turnK f]!).to)) (l := f) (by
        obtain ⟨o, ho, e⟩ := no_free hi _ hmf
        exact ⟨o, ho, decide_eq_true e⟩)
      have hwf : f[kOf (fun o => decide (o.fr = (f[turnK f]!).to)) f]! ∈ f := (perm_idx hw.1).mem_iff.2 List.mem_cons_self
      have hwe := of_decide_eq_true hw.2
      generalize hwd : f[kOf (fun o => decide (o.fr = (f[turnK f]!).to)) f]! = w at hwf hwe
      clear hw hwd
      rw [leftL_eq] at hIl ⊢
      generalize f[turnK f]! = m at hperm hmf hm2 hwe hIl ⊢
      have hvp := map_cons_perm hperm (fun m => m.v)
      have hv2 := hvp.nodup_iff.1 hv
      have hn2 := (map_cons_perm hperm (fun m => m.fr)).nodup_iff.1 hn
      generalize f.eraseIdx (turnK f) = r at hv2 hn2 hperm hvp hIl ⊢
      rw [List.nodup_cons] at hv2 hn2
      have hsub : ∀ o ∈ r, o ∈ f := fun o ho => hperm.mem_iff.2 (List.mem_cons_of_mem _ ho)
      have hlen := hperm.length_eq
      simp only [List.length_cons] at hlen
      have hab : m.fr ≠ m.to := (hI m hmf).2
      have hwm : w ∈ r := by
        rcases List.mem_cons.1 (hperm.mem_iff.1 hwf) with e | h
        · subst e; exact absurd hwe hab
        · exact h
      have hmem : ∀ o', o' ∈ (r.map (upd m)).filter (fun o => decide (o.fr ≠ o.to)) ↔ ∃ o ∈ r, o' = upd m o ∧ o'.fr ≠ o'.to := by
        intro o'
        rw [List.mem_filter, List.mem_map]
        constructor
        · rintro ⟨⟨o, ho, rfl⟩, h2⟩
          exact ⟨o, ho, rfl, of_decide_eq_true h2⟩
        · rintro ⟨o, ho, rfl, h2⟩
          exact ⟨⟨o, ho, rfl⟩, decide_eq_true h2⟩
      have hvs : (((r.map (upd m)).filter (fun o => decide (o.fr ≠ o.to))).map (fun m => m.v)).Sublist (r.map (fun m => m.v)) := by
        have h1 : (((r.map (upd m)).filter (fun o => decide (o.fr ≠ o.to))).map (fun m => m.v)).Sublist ((r.map (upd m)).map (fun m => m.v)) := List.filter_sublist.map _
        rw [List.map_map] at h1
        have h2 : ((fun x : Move => x.v) ∘ upd m) = (fun x : Move => x.v) := by funext o; exact upd_v m o
        rwa [h2] at h1
      have hfs : (((r.map (upd m)).filter (fun o => decide (o.fr ≠ o.to))).map (fun m => m.fr)).Nodup := by
        have h1 : (((r.map (upd m)).filter (fun o => decide (o.fr ≠ o.to))).map (fun m => m.fr)).Sublist ((r.map (upd m)).map (fun m => m.fr)) := List.filter_sublist.map _
        refine List.Nodup.sublist h1 ?_
        rw [List.map_map]
        have h3 : ∀ (s : List Move), (∀ o ∈ s, o.fr ≠ m.fr) → (s.map (fun m => m.fr)).Nodup → (s.map ((fun x : Move => x.fr) ∘ upd m)).Nodup := by
          intro s
          induction s with
          | nil => intro _ _; simp
          | cons a s ih =>
            intro hs hn
            rw [List.map_cons, List.nodup_cons] at hn ⊢
            refine ⟨fun hin => ?_, ih (fun o ho => hs o (List.mem_cons_of_mem _ ho)) hn.2⟩
            obtain ⟨o, ho, e⟩ := List.mem_map.1 hin
            simp only [Function.comp_apply, upd_fr] at e
            have ha := hs a List.mem_cons_self
            have ho' := hs o (List.mem_cons_of_mem _ ho)
            split at e <;> split at e
            · rename_i e1 e2
              exact hn.1 (List.mem_map.2 ⟨o, ho, by rw [e1, e2]⟩)
            · exact ha e.symm
            · exact ho' e
            · exact hn.1 (List.mem_map.2 ⟨o, ho, e⟩)
        exact h3 r (fun o ho e => hn2.1 (List.mem_map.2 ⟨o, ho, e⟩)) hn2.2
      have hflen : ((r.map (upd m)).filter (fun o => decide (o.fr ≠ o.to))).length ≤ r.length := by
        have := List.length_filter_le (fun o : Move => decide (o.fr ≠ o.to)) (r.map (upd m))
        rwa [List.length_map] at this
      obtain ⟨g1, g2⟩ := tags_F n ((r.map (upd m)).filter (fun o => decide (o.fr ≠ o.to))) (by omega) hIl (hv2.2.sublist hvs) hfs
      have hnot : ∀ v, v ∉ r.map (fun m => m.v) → v ∉ ((r.map (upd m)).filter (fun o => decide (o.fr ≠ o.to))).map (fun m => m.v) := fun v hp h => hp (hvs.subset h)
      have hka : m.to.kind ≠ 0 := by have := (hI m hmf).1.2.1; omega
      have hkb : m.fr.kind ≠ 0 := by omega
      have hwv : w.v ≠ m.v := fun e => hv2.1 (List.mem_map.2 ⟨w, hwm, e⟩)
      refine ⟨fun o ho => ?_, fun v p hp => ?_⟩
      · rw [trk_swap hka hkb]
        rcases List.mem_cons.1 (hperm.mem_iff.1 ho) with rfl | ho'
        · rw [if_neg hwv, if_pos rfl, g2 _ _ (hnot _ hv2.1)]
        · have hmo : m.v ≠ o.v := fun e => hv2.1 (List.mem_map.2 ⟨o, ho', e.symm⟩)
          rw [if_neg hmo]
          have hloc : (if w.v = o.v then m.fr else o.fr) = (upd m o).fr := by
            rw [upd_fr]
            by_cases e : o.fr = m.to
            · have : w = o := by
                by_cases hwo : w = o
                · exact hwo
                · exact (to_inj hn2.2 hwm ho' hwo (by show w.fr = o.fr; rw [hwe, e])).elim
              subst this
              rw [if_pos rfl, if_pos e]
            · rw [if_neg e]
              have hwo : w.v ≠ o.v := by
                intro ev
                have hne : w ≠ o := fun e' => e (e' ▸ hwe)
                exact to_inj (g := fun m => m.v) hv2.2 hwm ho' hne ev
              rw [if_neg hwo]
          rw [hloc]
          by_cases hk : (upd m o).fr = (upd m o).to
          · have hvn : o.v ∉ ((r.map (upd m)).filter (fun o => decide (o.fr ≠ o.to))).map (fun m => m.v) := by
              intro h
              obtain ⟨q', hq', e⟩ := List.mem_map.1 h
              obtain ⟨q, hq, rfl, hne⟩ := (hmem q').1 hq'
              rw [upd_v] at e
              have : q = o := by
                by_cases hqo : q = o
                · exact hqo
                · exact (to_inj (g := fun m => m.v) hv2.2 hq ho' hqo e).elim
              subst this
              exact hne hk
            rw [g2 _ _ hvn, hk, upd_to]
          · have := g1 (upd m o) ((hmem _).2 ⟨o, ho', rfl, hk⟩)
            rwa [upd_v, upd_to] at this
      · have hp2 : v ∉ m.v :: r.map (fun m => m.v) := fun h => hp (hvp.mem_iff.2 h)
        rw [List.mem_cons, not_or] at hp2
        have hwv2 : w.v ≠ v := fun e => hp2.2 (List.mem_map.2 ⟨w, hwm, e⟩)
        rw [trk_swap hka hkb, if_neg hwv2, if_neg (Ne.symm hp2.1)]
        exact g2 v p (hnot v hp2.2)
theorem split_perm (l : List Move) : ((split l).1 ++ (split l).2).Perm (l.filter (fun m => decide (m.fr ≠ m.to))) := by
  have key : ∀ (l : List Move) (s t : List Move), ((l.foldl split1 (s, t)).1 ++ (l.foldl split1 (s, t)).2).Perm (s ++ t ++ l.filter (fun m => decide (m.fr ≠ m.to))) := by
    intro l
    induction l with
    | nil => intro s t; simp
    | cons m l ih =>
      intro s t
      rw [List.foldl_cons]
      by_cases hm : m.fr = m.to
      · rw [List.filter_cons_of_neg (by simp [hm]), show split1 (s, t) m = (s, t) by simp [split1, hm]]
        exact ih s t
      · rw [List.filter_cons_of_pos (by simp [hm])]
        by_cases ha : s.any (fun o => decide (o.to = m.to)) = true
        · rw [show split1 (s, t) m = (s, t ++ [m]) by simp only [split1, if_neg hm, ha, if_true]]
          have := ih s (t ++ [m])
          simpa [List.append_assoc] using this
        · rw [show split1 (s, t) m = (s ++ [m], t) by simp only [split1, if_neg hm]; rw [if_neg ha]]
          have := ih (s ++ [m]) t
          refine this.trans ?_
          have h2 : (s ++ [m] ++ t).Perm (s ++ t ++ [m]) := by
            rw [List.append_assoc, List.append_assoc]
            exact List.Perm.append_left s List.perm_append_comm
          have h3 := h2.append_right (l.filter (fun m => decide (m.fr ≠ m.to)))
          simpa [List.append_assoc] using h3
  have := key l [] []
  simpa [split] using this
theorem late_tags : ∀ (t : List Move), (∀ m ∈ t, goodM m) → (t.map (fun m => m.v)).Nodup →
    (∀ m ∈ t, ∀ p, (t.map one).foldl (trk m.v) p = m.to) ∧ (∀ v p, v ∉ t.map (fun m => m.v) → (t.map one).foldl (trk v) p = p)
  | [], _, _ => ⟨fun m hm => (List.not_mem_nil hm).elim, fun v p _ => rfl⟩
  | m :: t, hg, hv => by
    rw [List.map_cons, List.nodup_cons] at hv
    obtain ⟨h1, h2⟩ := late_tags t (fun o ho => hg o (List.mem_cons_of_mem _ ho)) hv.2
    have hgm := hg m List.mem_cons_self
    refine ⟨fun o ho p => ?_, fun v p hp => ?_⟩
    · rw [List.map_cons, List.foldl_cons, trk_one hgm]
      rcases List.mem_cons.1 ho with rfl | ho
      · rw [if_pos rfl, h2 _ _ hv.1]
      · exact h1 o ho _
    · rw [List.map_cons, List.mem_cons, not_or] at hp
      rw [List.map_cons, List.foldl_cons, trk_one hgm, if_neg (Ne.symm hp.1)]
      exact h2 v p hp.2
theorem tags_ok (l : List Move) (h : plainS l = true) (hv : (l.map (fun m => m.v)).Nodup) (hn : (l.map (fun m => m.fr)).Nodup) : ∀ m ∈ l, (order l).foldl (trk m.v) m.fr = m.to := by
  unfold plainS at h
  simp only [Bool.and_eq_true, List.all_eq_true, decide_eq_true_eq] at h
  have hp := split_perm l
  have hI := split_inv l h.1
  unfold order
  generalize (split l).1 = s at hp hI
  generalize (split l).2 = t at hp
  have hsub : ∀ (g : Move → Int), ((l.filter (fun m => decide (m.fr ≠ m.to))).map g).Sublist (l.map g) := fun g => List.filter_sublist.map _
  have hsv : ((s ++ t).map (fun m => m.v)).Nodup := ((hp.map (fun m => m.v)).nodup_iff).2 (hv.sublist (List.filter_sublist.map _))
  have hsn : ((s ++ t).map (fun m => m.fr)).Nodup := ((hp.map (fun m => m.fr)).nodup_iff).2 (hn.sublist (List.filter_sublist.map _))
  rw [List.map_append, List.nodup_append] at hsv hsn
  obtain ⟨g1, g2⟩ := tags_F s.length s (Nat.le_refl _) hI hsv.1 hsn.1
  have htl : ∀ m ∈ t, m ∈ l := fun m hm => (List.mem_filter.1 (hp.mem_iff.1 (List.mem_append_right s hm))).1
  obtain ⟨k1, k2⟩ := late_tags t (fun m hm => h.1 m (htl m hm)) hsv.2.1
  intro m hm
  rw [List.foldl_append]
  by_cases he : m.fr = m.to
  · have hnot : ∀ o ∈ s ++ t, o.v ≠ m.v := by
      intro o ho e
      obtain ⟨h1, h2⟩ := List.mem_filter.1 (hp.mem_iff.1 ho)
      by_cases hom : o = m
      · subst hom; exact of_decide_eq_true h2 he
      · exact to_inj (g := fun m => m.v) hv h1 hm hom e
    rw [g2 _ _ (fun hin => by
      obtain ⟨o, ho, e⟩ := List.mem_map.1 hin
      exact hnot o (List.mem_append_left t ho) e), k2 _ _ (fun hin => by
      obtain ⟨o, ho, e⟩ := List.mem_map.1 hin
      exact hnot o (List.mem_append_right s ho) e), he]
  · rcases List.mem_append.1 (hp.mem_iff.2 (List.mem_filter.2 ⟨hm, decide_eq_true he⟩)) with hs | ht
    · rw [g1 m hs, k2]
      intro hin
      exact hsv.2.2 m.v (List.mem_map.2 ⟨m, hs, rfl⟩) m.v hin rfl
    · exact k1 m ht _
/-- What may stand where in the instructions of moves. -/
def okT (op i kind : Int) : Prop := (op = 24 ∧ (i = -1 ∨ i = 0) ∧ kind = 2) ∨ (op = 25 ∧ (i = -1 ∧ kind = 3 ∨ i = 0 ∧ kind = 2)) ∨ (op = 26 ∧ (i = -1 ∧ kind = 2 ∨ i = 0 ∧ kind = 3)) ∨ (op = 27 ∧ (i = -1 ∧ kind = 0 ∨ (i = 0 ∨ i = 1) ∧ (kind = 2 ∨ kind = 3)))
def okI (x : Ins) : Prop := ∀ (j : Nat) (o : Opd), (x.dst :: x.args)[j]? = some o → okT x.op ((j : Int) - 1) o.kind
theorem okI_one {m : Move} (h : goodM m) (hne : m.fr ≠ m.to) : okI (one m) := by
  intro j o ho
  have hx : (one m).dst :: (one m).args = [put m.to m.v, put m.fr m.v] := rfl
  rw [hx] at ho
  obtain ⟨h1, h2, h3⟩ := h
  have hop : (one m).op = if m.to.kind = 3 then 25 else if m.fr.kind = 3 then 26 else 24 := rfl
  have hb : ¬ (m.fr.kind = 3 ∧ m.to.kind = 3) := fun ⟨a, b⟩ => hne (h3 a b)
  match j, ho with
  | 0, ho =>
    simp at ho
    subst ho
    have : (put m.to m.v).kind = m.to.kind := rfl
    rw [this, hop]
    unfold okT
    split
    · omega
    · split <;> omega
  | 1, ho =>
    simp at ho
    subst ho
    have : (put m.fr m.v).kind = m.fr.kind := rfl
    rw [this, hop]
    unfold okT
    split
    · omega
    · split <;> omega
  | j + 2, ho => simp at ho
theorem okI_swap {a b : Loc} (ha : a.kind = 2 ∨ a.kind = 3) (hb : b.kind = 2 ∨ b.kind = 3) (v w : Int) : okI (swapI a v b w) := by
  intro j o ho
  have hx : (swapI a v b w).dst :: (swapI a v b w).args = [⟨0, 0, 0, 0⟩, put a v, put b w] := rfl
  rw [hx] at ho
  have hop : (swapI a v b w).op = 27 := rfl
  rw [hop]
  match j, ho with
  | 0, ho =>
    simp at ho
    subst ho
    unfold okT
    simp
  | 1, ho =>
    simp at ho
    subst ho
    have : (put a v).kind = a.kind := rfl
    rw [this]
    unfold okT
    omega
  | 2, ho =>
    simp at ho
    subst ho
    have : (put b w).kind = b.kind := rfl
    rw [this]
    unfold okT
    omega
  | j + 3, ho => simp at ho
theorem okI_F : ∀ (n : Nat) (f : List Move), Inv f → ∀ x ∈ orderF n f, okI x
  | 0, f, hI, x, hx => by cases hx
  | n + 1, f, hI, x, hx => by
    by_cases hf : f = []
    · subst hf
      simp [orderF] at hx
    cases hi : f.findIdx? (open_ f) with
    | some j =>
      obtain ⟨hj, hp, _⟩ := List.findIdx?_eq_some_iff_getElem.1 hi
      have hperm := perm_idx hj
      simp only [orderF, if_neg hf, hi] at hx
      have hmf : f[j]! ∈ f := hperm.mem_iff.2 List.mem_cons_self
      rcases List.mem_cons.1 hx with rfl | hx
      · exact okI_one (hI _ hmf).1 (hI _ hmf).2
      · exact okI_F n _ (fun o ho => hI o (List.mem_of_mem_eraseIdx ho)) x hx
    | none =>
      obtain ⟨j, hk, hj, hkj⟩ := pre_of hI hf hi
      have hjl : turnK f < f.length := kOf_lt hf
      have hm2 : (f[turnK f]!).fr.kind = 2 := by
        obtain ⟨hk', hp, _⟩ := List.findIdx?_eq_some_iff_getElem.1 hk
        rw [hj]
        have e' : f[j]! = f[j] := by simp [hk']
        rw [e']
        simpa using hp
      have hmf : f[turnK f]! ∈ f := (perm_idx hjl).mem_iff.2 List.mem_cons_self
      simp only [orderF, if_neg hf, hi] at hx
      rcases List.mem_cons.1 hx with rfl | hx
      · exact okI_swap (by have := (hI _ hmf).1.2.1; omega) (.inl hm2) _ _
      · exact okI_F n _ (inv_left hI hm2) x hx
theorem okI_order (l : List Move) (h : plainS l = true) : ∀ x ∈ order l, okI x := by
  unfold plainS at h
  simp only [Bool.and_eq_true, List.all_eq_true, decide_eq_true_eq] at h
  intro x hx
  unfold order at hx
  rcases List.mem_append.1 hx with hx | hx
  · exact okI_F _ _ (split_inv l h.1) x hx
  · obtain ⟨m, hm, rfl⟩ := List.mem_map.1 hx
    obtain ⟨h1, h2⟩ := List.mem_filter.1 ((split_perm l).mem_iff.1 (List.mem_append_right _ hm))
    exact okI_one (h.1 m h1) (of_decide_eq_true h2)
end Go.Proofs.Ytapfnhhedieebaa.X
