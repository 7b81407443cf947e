import Derived.Test.YtapfnhhedieebaaM29J
namespace Go.Proofs.Ytapfnhhedieebaa.X
open Go Go.AM Go.Proofs
set_option linter.unusedVariables false
set_option linter.unusedSimpArgs false
/-! The plain law of MovesMake: what the instructions bring where. -/
theorem perm_idx : ∀ {f : List Move} {k : Nat}, k < f.length → f.Perm (f[k]! :: f.eraseIdx k)
  | [], k, h => by simp at h
  | a :: f, 0, h => by simp
  | a :: f, k + 1, h => by
    have h' : k < f.length := by simpa using h
    have := perm_idx h'
    simp only [List.getElem!_cons_succ, List.eraseIdx_cons_succ]
    exact (List.Perm.cons a this).trans (List.Perm.swap _ _ _)
theorem nodup_cover {α : Type} [DecidableEq α] : ∀ (s t : List α), s.Nodup → (∀ x ∈ s, x ∈ t) → t.length ≤ s.length → t.Perm s
  | [], t, _, _, hl => by
    have : t = [] := List.length_eq_zero_iff.1 (by simpa using hl)
    subst this
    exact List.Perm.refl _
  | a :: s, t, hn, hs, hl => by
    rw [List.nodup_cons] at hn
    have ha := hs a List.mem_cons_self
    have hp := List.perm_cons_erase ha
    have hlen := hp.length_eq
    simp only [List.length_cons] at hlen hl
    refine hp.trans (List.Perm.cons a (nodup_cover s _ hn.2 (fun x hx => ?_) (by omega)))
    have hne : x ≠ a := fun e => hn.1 (e ▸ hx)
    exact (List.mem_erase_of_ne hne).2 (hs x (List.mem_cons_of_mem _ hx))
def upd (m : Move) (o : Move) : Move := if o.fr = m.to then ⟨o.v, m.fr, o.to⟩ else o
theorem upd_v (m o : Move) : (upd m o).v = o.v := by unfold upd; split <;> rfl
theorem upd_to (m o : Move) : (upd m o).to = o.to := by unfold upd; split <;> rfl
theorem upd_fr (m o : Move) : (upd m o).fr = if o.fr = m.to then m.fr else o.fr := by unfold upd; split <;> rfl
theorem leftL_eq (m : Move) (k : Nat) (f : List Move) : leftL m k f = ((f.eraseIdx k).map (upd m)).filter (fun o => decide (o.fr ≠ o.to)) := by
  have key : ∀ (l : List Move) (s : List Move) (j : Nat), (l.foldl (left1 m k) (s, j)).1 = s ++ (((if j ≤ k then l.eraseIdx (k - j) else l).map (upd m)).filter (fun o => decide (o.fr ≠ o.to))) := by
    intro l
    induction l with
    | nil => intro s j; simp
    | cons o l ih =>
      intro s j
      rw [List.foldl_cons]
      have e : left1 m k (s, j) o = (if j ≠ k ∧ (upd m o).fr ≠ (upd m o).to then s ++ [upd m o] else s, j + 1) := rfl
      rw [e, ih]
      by_cases hj : j ≤ k
      · rw [if_pos hj]
        by_cases hk : j = k
        · subst hk
          rw [if_neg (by omega : ¬ j + 1 ≤ j)]
          simp
        · rw [if_pos (by omega : j + 1 ≤ k), show k - j = (k - (j + 1)) + 1 by omega, List.eraseIdx_cons_succ, List.map_cons]
          by_cases hq : (upd m o).fr = (upd m o).to
          · rw [List.filter_cons_of_neg (by simp [hq])]
            simp [hq]
          · rw [List.filter_cons_of_pos (by simp [hq])]
            simp [hq, hk]
      · rw [if_neg hj, if_neg (by omega : ¬ j + 1 ≤ k), List.map_cons]
        have hk : j ≠ k := by omega
        by_cases hq : (upd m o).fr = (upd m o).to
        · rw [List.filter_cons_of_neg (by simp [hq])]
          simp [hq]
        · rw [List.filter_cons_of_pos (by simp [hq])]
          simp [hq, hk]
  have := key f [] 0
  rw [if_pos (Nat.zero_le _), Nat.sub_zero, List.nil_append] at this
  exact this
theorem getC_set (c : List Cell) (p q : Loc) (n : Int) : getC (setC c p n) q = if q = p then n else getC c q := by
  unfold getC setC
  rw [List.find?_cons]
  by_cases h : q = p
  · subst h; simp
  · rw [if_neg h]
    have hp : decide (p = q) = false := by simp [Ne.symm h]
    simp only [hp]
    rw [List.find?_filter]
    congr 2
    funext a
    by_cases ha : a.pos = q
    · have : a.pos ≠ p := fun e => h (ha ▸ e)
      simp [ha, this, h]
    · simp [ha]
/-- The places of some cells: each once, and these among them. -/
def Keys (c : List Cell) (n : Nat) (ps : List Loc) : Prop := (c.map (·.pos)).Nodup ∧ (∀ p ∈ ps, p ∈ c.map (·.pos)) ∧ c.length = n
theorem keys_set {c : List Cell} {k : Nat} {ps : List Loc} (h : Keys c k ps) {p : Loc} (hp : p ∈ ps) (n : Int) : Keys (setC c p n) k ps := by
  obtain ⟨h1, h2, h3⟩ := h
  unfold setC
  have hm : (c.filter (fun c => !decide (c.pos = p))).map (·.pos) = (c.map (·.pos)).filter (fun q => !decide (q = p)) := by
    rw [List.filter_map]
    rfl
  refine ⟨?_, fun q hq => ?_, ?_⟩
  · rw [List.map_cons, hm, List.nodup_cons]
    exact ⟨by simp, h1.sublist List.filter_sublist⟩
  · rw [List.map_cons, hm]
    by_cases e : q = p
    · simp [e]
    · exact List.mem_cons_of_mem _ (List.mem_filter.2 ⟨h2 q hq, by simp [e]⟩)
  · have hpos := h2 p hp
    have key : ∀ (l : List Loc), l.Nodup → p ∈ l → (l.filter (fun q => !decide (q = p))).length + 1 = l.length := by
      intro l
      induction l with
      | nil => intro _ h; cases h
      | cons a l ih =>
        intro hn hp
        rw [List.nodup_cons] at hn
        by_cases e : a = p
        · subst e
          rw [List.filter_cons_of_neg (by simp)]
          rw [List.filter_eq_self.2 (fun x hx => by simp; intro e; subst e; exact hn.1 hx)]
          simp
        · rw [List.filter_cons_of_pos (by simp [e])]
          have := ih hn.2 ((List.mem_cons.1 hp).resolve_left (Ne.symm e))
          simp only [List.length_cons]
          omega
    have := key _ h1 hpos
    rw [← hm, List.length_map, List.length_map] at this
    rw [List.length_cons, this, h3]
theorem do_one (c : List Cell) (m : Move) : doC c (one m) = setC c m.to (getC c m.fr) := rfl
theorem do_swap (c : List Cell) (a b : Loc) (v w : Int) : doC c (swapI a v b w) = setC (setC c a (getC c b)) b (getC c a) := rfl
theorem no_free {f : List Move} (hi : f.findIdx? (open_ f) = none) : ∀ m ∈ f, ∃ o ∈ f, o.fr = m.to := by
  intro m hm
  rw [List.findIdx?_eq_none_iff] at hi
  have h1 := hi m hm
  simp only [open_, Bool.not_eq_false', List.any_eq_true, decide_eq_true_eq] at h1
  exact h1
theorem to_inj {α : Type} {g : Move → α} : ∀ {r : List Move}, (r.map g).Nodup → ∀ {q o : Move}, q ∈ r → o ∈ r → q ≠ o → g q = g o → False
  | [], _, q, o, hq, _, _, _ => List.not_mem_nil hq
  | a :: r, hn, q, o, hq, ho, hne, e => by
    rw [List.map_cons, List.nodup_cons] at hn
    rcases List.mem_cons.1 hq with rfl | hq
    · rcases List.mem_cons.1 ho with rfl | ho
      · exact hne rfl
      · exact hn.1 (List.mem_map.2 ⟨o, ho, e.symm⟩)
    · rcases List.mem_cons.1 ho with e' | ho
      · exact hn.1 (List.mem_map.2 ⟨q, hq, by rw [e, e']⟩)
      · exact to_inj hn.2 hq ho hne e
def NeM (f : List Move) : Prop := ∀ m ∈ f, m.fr ≠ m.to
theorem map_cons_perm {α : Type} {f r : List Move} {m : Move} (h : f.Perm (m :: r)) (g : Move → α) : (f.map g).Perm (g m :: r.map g) := h.map g
theorem make_F : ∀ (n : Nat) (f : List Move), f.length ≤ n → NeM f → (f.map (fun m => m.to)).Nodup → ∀ (c : List Cell) (k : Nat) (ps : List Loc), Keys c k ps → (∀ m ∈ f, m.to ∈ ps ∧ m.fr ∈ ps) →
    (∀ m ∈ f, getC ((orderF n f).foldl doC c) m.to = getC c m.fr) ∧ (∀ p, p ∉ f.map (fun m => m.to) → getC ((orderF n f).foldl doC c) p = getC c p) ∧ Keys ((orderF n f).foldl doC c) k ps
  | 0, f, hl, hI, hn, c, k, ps, hK, hps => by
    have : f = [] := List.length_eq_zero_iff.1 (by omega)
    subst this
    exact ⟨fun m hm => (List.not_mem_nil hm).elim, fun p _ => rfl, hK⟩
  | n + 1, f, hl, hI, hn, c, k, ps, hK, hps => by
    by_cases hf : f = []
    · subst hf
      have e0 : orderF (n + 1) [] = [] := by simp [orderF]
      rw [e0]
      exact ⟨fun m hm => (List.not_mem_nil hm).elim, fun p _ => rfl, hK⟩
    cases hi : f.findIdx? (open_ f) with
    | some j =>
      obtain ⟨hj, hp, _⟩ := List.findIdx?_eq_some_iff_getElem.1 hi
      have e' : f[j]! = f[j] := by simp [hj]
      have hperm := perm_idx hj
      simp only [orderF, if_neg hf, hi, List.foldl_cons]
      rw [e'] at hperm ⊢
      generalize f[j] = m at hp hperm ⊢
      rw [do_one]
      have hopen : ∀ o ∈ f, o.fr ≠ m.to := by
        intro o ho e
        simp only [open_, Bool.not_eq_true', List.any_eq_false, decide_eq_true_eq] at hp
        exact hp o ho e
      have hmf : m ∈ f := hperm.mem_iff.2 List.mem_cons_self
      have hto := map_cons_perm hperm (fun m => m.to)
      have hn2 := hto.nodup_iff.1 hn
      rw [List.nodup_cons] at hn2
      have hsub : ∀ o ∈ f.eraseIdx j, o ∈ f := fun o ho => hperm.mem_iff.2 (List.mem_cons_of_mem _ ho)
      have hlen := hperm.length_eq
      simp only [List.length_cons] at hlen
      obtain ⟨g1, g2, g3⟩ := make_F n (f.eraseIdx j) (by omega) (fun o ho => hI o (hsub o ho)) hn2.2 (setC c m.to (getC c m.fr)) k ps (keys_set hK (hps m hmf).1 _) (fun o ho => hps o (hsub o ho))
      refine ⟨fun o ho => ?_, fun p hp => ?_, g3⟩
      · rcases List.mem_cons.1 (hperm.mem_iff.1 ho) with rfl | ho'
        · rw [g2 _ hn2.1, getC_set, if_pos rfl]
        · rw [g1 o ho', getC_set, if_neg (hopen o ho)]
      · have hp2 : p ∉ m.to :: (f.eraseIdx j).map (fun m => m.to) := fun h => hp (hto.mem_iff.2 h)
        rw [List.mem_cons, not_or] at hp2
        rw [g2 p hp2.2, getC_set, if_neg hp2.1]
    | none =>
      have hj : turnK f < f.length := kOf_lt hf
      have hperm := perm_idx hj
      have ht : turnI f (turnK f) = swapI (f[turnK f]!).to (f[turnK f]!).v (f[turnK f]!).fr (f[kOf (fun o => decide (o.fr = (f[turnK f]!).to)) f]!).v := rfl
      simp only [orderF, if_neg hf, hi, List.foldl_cons]
      rw [ht, leftL_eq, do_swap]
      generalize f[turnK f]! = m at hperm ⊢
      have hmf : m ∈ f := hperm.mem_iff.2 List.mem_cons_self
      have hcov := nodup_cover (f.map (fun m => m.to)) (f.map (fun m => m.fr)) hn (fun x hx => by
        obtain ⟨o, ho, rfl⟩ := List.mem_map.1 hx
        obtain ⟨o', ho', e'⟩ := no_free hi o ho
        exact List.mem_map.2 ⟨o', ho', e'⟩) (by simp)
      have hfn : (f.map (fun m => m.fr)).Nodup := hcov.nodup_iff.2 hn
      have hto := map_cons_perm hperm (fun m => m.to)
      have hn2 := hto.nodup_iff.1 hn
      have hf2 := (map_cons_perm hperm (fun m => m.fr)).nodup_iff.1 hfn
      generalize f.eraseIdx (turnK f) = r at hn2 hf2 hperm hto ⊢
      rw [List.nodup_cons] at hn2 hf2
      have hsub : ∀ o ∈ r, o ∈ f := fun o ho => hperm.mem_iff.2 (List.mem_cons_of_mem _ ho)
      have hlen := hperm.length_eq
      simp only [List.length_cons] at hlen
      have hab : m.fr ≠ m.to := hI m hmf
      have hc1 : ∀ p, getC (setC (setC c m.to (getC c m.fr)) m.fr (getC c m.to)) p = if p = m.fr then getC c m.to else if p = m.to then getC c m.fr else getC c p := by
        intro p
        rw [getC_set, getC_set]
      have hK1 : Keys (setC (setC c m.to (getC c m.fr)) m.fr (getC c m.to)) k ps := keys_set (keys_set hK (hps m hmf).1 _) (hps m hmf).2 _
      generalize setC (setC c m.to (getC c m.fr)) m.fr (getC c m.to) = c1 at hc1 hK1 ⊢
      have hmem : ∀ o', o' ∈ (r.map (upd m)).filter (fun o => decide (o.fr ≠ o.to)) ↔ ∃ o ∈ r, o' = upd m o ∧ o'.fr ≠ o'.to := by
        intro o'
        rw [List.mem_filter, List.mem_map]
        constructor
        · rintro ⟨⟨o, ho, rfl⟩, h2⟩
          exact ⟨o, ho, rfl, of_decide_eq_true h2⟩
        · rintro ⟨o, ho, rfl, h2⟩
          exact ⟨⟨o, ho, rfl⟩, decide_eq_true h2⟩
      have htos : (((r.map (upd m)).filter (fun o => decide (o.fr ≠ o.to))).map (fun m => m.to)).Sublist (r.map (fun m => m.to)) := by
        have h1 : (((r.map (upd m)).filter (fun o => decide (o.fr ≠ o.to))).map (fun m => m.to)).Sublist ((r.map (upd m)).map (fun m => m.to)) := List.filter_sublist.map _
        rw [List.map_map] at h1
        have h2 : ((fun x : Move => x.to) ∘ upd m) = (fun x : Move => x.to) := by funext o; exact upd_to m o
        rwa [h2] at h1
      have hflen : ((r.map (upd m)).filter (fun o => decide (o.fr ≠ o.to))).length ≤ r.length := by
        have := List.length_filter_le (fun o : Move => decide (o.fr ≠ o.to)) (r.map (upd m))
        rwa [List.length_map] at this
      obtain ⟨g1, g2, g3⟩ := make_F n ((r.map (upd m)).filter (fun o => decide (o.fr ≠ o.to))) (by omega) (fun o ho => ((hmem o).1 ho).elim fun _ h => h.2.2) (hn2.2.sublist htos) c1 k ps hK1 (fun o' ho0 => by
        obtain ⟨o, ho, rfl, _⟩ := (hmem o').1 ho0
        rw [upd_to, upd_fr]
        refine ⟨(hps o (hsub o ho)).1, ?_⟩
        split
        · exact (hps m hmf).2
        · exact (hps o (hsub o ho)).2)
      have hnot : ∀ p, p ∉ r.map (fun m => m.to) → p ∉ ((r.map (upd m)).filter (fun o => decide (o.fr ≠ o.to))).map (fun m => m.to) := fun p hp h => hp (htos.subset h)
      refine ⟨fun o ho => ?_, fun p hp => ?_, g3⟩
      · rcases List.mem_cons.1 (hperm.mem_iff.1 ho) with rfl | ho'
        · rw [g2 _ (hnot _ hn2.1), hc1, if_neg (Ne.symm hab), if_pos rfl]
        · have hof : o.fr ≠ m.fr := fun e => hf2.1 (List.mem_map.2 ⟨o, ho', e⟩)
          have hval : getC c1 (upd m o).fr = getC c o.fr := by
            rw [upd_fr]
            by_cases he : o.fr = m.to
            · rw [if_pos he, hc1, if_pos rfl, he]
            · rw [if_neg he, hc1, if_neg hof, if_neg he]
          by_cases hk : (upd m o).fr = (upd m o).to
          · have hto' : o.to ∉ ((r.map (upd m)).filter (fun o => decide (o.fr ≠ o.to))).map (fun m => m.to) := by
              intro h
              obtain ⟨q', hq', e⟩ := List.mem_map.1 h
              obtain ⟨q, hq, rfl, hne⟩ := (hmem q').1 hq'
              rw [upd_to] at e
              have : q = o := by
                by_cases hqo : q = o
                · exact hqo
                · exfalso
                  exact to_inj hn2.2 hq ho' hqo e
              subst this
              exact hne hk
            rw [g2 _ hto', ← upd_to m o, ← hk, hval]
          · have := g1 (upd m o) ((hmem _).2 ⟨o, ho', rfl, hk⟩)
            rw [upd_to] at this
            rw [this, hval]
      · have hp2 : p ∉ m.to :: r.map (fun m => m.to) := fun h => hp (hto.mem_iff.2 h)
        rw [List.mem_cons, not_or] at hp2
        have hpf : p ≠ m.fr := by
          intro e
          subst e
          exact hp (hcov.mem_iff.1 (List.mem_map.2 ⟨m, hmf, rfl⟩))
        rw [g2 p (hnot p hp2.2), hc1, if_neg hpf, if_neg hp2.1]
end Go.Proofs.Ytapfnhhedieebaa.X
