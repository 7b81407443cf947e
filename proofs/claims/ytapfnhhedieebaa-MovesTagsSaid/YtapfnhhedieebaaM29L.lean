import Derived.Test.YtapfnhhedieebaaM29K
namespace Go.Proofs.Ytapfnhhedieebaa.X
open Go Go.AM Go.Proofs
set_option linter.unusedVariables false
set_option linter.unusedSimpArgs false
def allL : List Move → List Loc
  | [] => []
  | m :: l => m.fr :: m.to :: allL l
theorem allL_app : ∀ (l k : List Move), allL (l ++ k) = allL l ++ allL k
  | [], k => rfl
  | m :: l, k => by simp [allL, allL_app l k]
theorem allL_len : ∀ (l : List Move), (allL l).length = 2 * l.length
  | [] => rfl
  | m :: l => by simp only [allL, List.length_cons, allL_len l]; omega
theorem allL_mem : ∀ {l : List Move} {m : Move}, m ∈ l → m.to ∈ allL l ∧ m.fr ∈ allL l
  | a :: l, m, h => by
    rcases List.mem_cons.1 h with rfl | h
    · simp [allL]
    · have := allL_mem h
      simp [allL, this.1, this.2]
def wasN : List Loc → Nat → List Cell → List Cell
  | [], _, c => c
  | p :: ps, i, c => wasN ps (i + 1) (setC c p ((i : Int) + 1))
theorem wasN_app : ∀ (ps : List Loc) (p : Loc) (i : Nat) (c : List Cell), wasN (ps ++ [p]) i c = setC (wasN ps i c) p (((i + ps.length : Nat) : Int) + 1)
  | [], p, i, c => by simp [wasN]
  | q :: ps, p, i, c => by
    simp only [List.cons_append, wasN, List.length_cons]
    rw [wasN_app ps p (i + 1)]
    rw [show i + 1 + ps.length = i + (ps.length + 1) by omega]
def wasF (ps : List Loc) : List Cell := wasN ps 0 []
theorem wasN_len : ∀ (ps : List Loc) (i : Nat) (c : List Cell), (wasN ps i c).length ≤ c.length + ps.length
  | [], i, c => by simp [wasN]
  | p :: ps, i, c => by
    have h1 := wasN_len ps (i + 1) (setC c p ((i : Int) + 1))
    have h2 := setC_len c p ((i : Int) + 1)
    simp only [wasN, List.length_cons]
    omega
theorem set_keys (c : List Cell) (p : Loc) (n : Int) : ((setC c p n).map (·.pos)) = p :: (c.map (·.pos)).filter (fun q => !decide (q = p)) := by
  unfold setC
  rw [List.map_cons, List.filter_map]
  rfl
theorem wasN_keys : ∀ (ps : List Loc) (i : Nat) (c : List Cell), (c.map (·.pos)).Nodup → ((wasN ps i c).map (·.pos)).Nodup ∧ (∀ p, p ∈ ps ∨ p ∈ c.map (·.pos) → p ∈ (wasN ps i c).map (·.pos))
  | [], i, c, h => ⟨h, fun p hp => hp.resolve_left (by simp)⟩
  | q :: ps, i, c, h => by
    have hk := set_keys c q ((i : Int) + 1)
    obtain ⟨h1, h2⟩ := wasN_keys ps (i + 1) (setC c q ((i : Int) + 1)) (by
      rw [hk, List.nodup_cons]
      exact ⟨by simp, h.sublist List.filter_sublist⟩)
    refine ⟨h1, fun p hp => h2 p ?_⟩
    rw [hk]
    by_cases e : p = q
    · right; simp [e]
    · rcases hp with hp | hp
      · exact .inl ((List.mem_cons.1 hp).resolve_left e)
      · exact .inr (List.mem_cons_of_mem _ (List.mem_filter.2 ⟨hp, by simp [e]⟩))
theorem wasF_keys (ps : List Loc) : Keys (wasF ps) (wasF ps).length ps := by
  obtain ⟨h1, h2⟩ := wasN_keys ps 0 [] (by simp)
  exact ⟨h1, fun p hp => h2 p (.inl hp), rfl⟩
theorem split_nodup (l : List Move) (h : (l.map (fun m => m.to)).Nodup) : split l = (l.filter (fun m => decide (m.fr ≠ m.to)), []) := by
  have key : ∀ (l : List Move) (s t : List Move), ((s ++ l).map (fun m => m.to)).Nodup → l.foldl split1 (s, t) = (s ++ l.filter (fun m => decide (m.fr ≠ m.to)), t) := by
    intro l
    induction l with
    | nil => intro s t _; simp
    | cons m l ih =>
      intro s t hn
      have hn' : ((s ++ l).map (fun m => m.to)).Nodup := by
        rw [List.map_append, List.map_cons, List.nodup_append] at hn
        rw [List.map_append, List.nodup_append]
        obtain ⟨h1, h2, h3⟩ := hn
        rw [List.nodup_cons] at h2
        exact ⟨h1, h2.2, fun a ha b hb => h3 a ha b (List.mem_cons_of_mem _ hb)⟩
      rw [List.foldl_cons]
      by_cases hm : m.fr = m.to
      · rw [List.filter_cons_of_neg (by simp [hm])]
        rw [show split1 (s, t) m = (s, t) by simp [split1, hm]]
        exact ih s t hn'
      · rw [List.filter_cons_of_pos (by simp [hm])]
        have hno : s.any (fun o => decide (o.to = m.to)) = false := by
          rw [List.any_eq_false]
          intro o ho e
          rw [List.map_append, List.map_cons, List.nodup_append] at hn
          exact hn.2.2 o.to (List.mem_map.2 ⟨o, ho, rfl⟩) m.to (by simp) (of_decide_eq_true e)
        rw [show split1 (s, t) m = (s ++ [m], t) by simp [split1, hm, hno]]
        rw [ih (s ++ [m]) t (by rwa [List.append_assoc, List.singleton_append])]
        simp
  have := key l [] [] (by simpa using h)
  simpa [split] using this
theorem make_ok (l : List Move) (hn : (l.map (fun m => m.to)).Nodup) : (∀ m ∈ l, getC ((order l).foldl doC (wasF (allL l))) m.to = getC (wasF (allL l)) m.fr) ∧ ((order l).foldl doC (wasF (allL l))).length = (wasF (allL l)).length := by
  unfold order
  rw [split_nodup l hn]
  simp only [List.map_nil, List.append_nil]
  have hsub : ((l.filter (fun m => decide (m.fr ≠ m.to))).map (fun m => m.to)).Sublist (l.map (fun m => m.to)) := List.filter_sublist.map _
  obtain ⟨h1, h2, h3⟩ := make_F _ (l.filter (fun m : Move => decide (m.fr ≠ m.to))) (Nat.le_refl _)
    (fun m hm => of_decide_eq_true (List.mem_filter.1 hm).2) (hn.sublist hsub) (wasF (allL l)) _ (allL l) (wasF_keys _) (fun m hm => allL_mem (List.mem_filter.1 hm).1)
  refine ⟨fun m hm => ?_, h3.2.2⟩
  by_cases he : m.fr = m.to
  · rw [h2, he]
    intro hin
    obtain ⟨o, ho, e⟩ := List.mem_map.1 hin
    obtain ⟨ho1, ho2⟩ := List.mem_filter.1 ho
    by_cases hmo : o = m
    · subst hmo
      exact of_decide_eq_true ho2 he
    · exact to_inj hn ho1 hm hmo e
  · exact h1 m (List.mem_filter.2 ⟨hm, by simp [he]⟩)
theorem doC_len (c : List Cell) (x : Ins) : (doC c x).length ≤ c.length + 2 := by
  unfold doC
  split
  · split
    · rename_i a b _ _
      have h1 := setC_len c (atO a) (getC c (atO b))
      have h2 := setC_len (setC c (atO a) (getC c (atO b))) (atO b) (getC c (atO a))
      omega
    · omega
  · rename_i a _
    have h1 := setC_len c (atO x.dst) (getC c (atO a))
    omega
  · omega
theorem do_len : ∀ (xs : List Ins) (c : List Cell), (xs.foldl doC c).length ≤ c.length + 2 * xs.length
  | [], c => by simp
  | x :: xs, c => by
    have h1 := do_len xs (doC c x)
    have h2 := doC_len c x
    simp only [List.foldl_cons, List.length_cons]
    omega
end Go.Proofs.Ytapfnhhedieebaa.X
