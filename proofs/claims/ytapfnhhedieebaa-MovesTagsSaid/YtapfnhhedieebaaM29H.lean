import Derived.Test.YtapfnhhedieebaaM29G
namespace Go.Proofs.Ytapfnhhedieebaa.X
open Go Go.AM Go.Proofs
set_option linter.unusedVariables false
set_option linter.unusedSimpArgs false
def Inv (f : List Move) : Prop := ∀ m ∈ f, goodM m ∧ m.fr ≠ m.to
theorem pre_of {f : List Move} (h : Inv f) (hne : f ≠ []) (hi : f.findIdx? (open_ f) = none) : ∃ k, f.findIdx? (fun m => m.fr.kind == 2) = some k ∧ turnK f = k ∧ refK f = k := by
  rw [List.findIdx?_eq_none_iff] at hi
  cases hk : f.findIdx? (fun m => m.fr.kind == 2) with
  | some k => exact ⟨k, rfl, by simp [turnK, kOf, hk], by simp [refK, hk]⟩
  | none =>
    exfalso
    rw [List.findIdx?_eq_none_iff] at hk
    cases f with
    | nil => exact hne rfl
    | cons m r =>
      have hm : m ∈ m :: r := List.mem_cons_self
      have h1 := hi m hm
      simp only [open_, Bool.not_eq_false', List.any_eq_true, decide_eq_true_eq] at h1
      obtain ⟨o, ho, hof⟩ := h1
      have k3 : ∀ x ∈ m :: r, x.fr.kind = 3 := by
        intro x hx
        have := hk x hx
        have hg := (h x hx).1.1
        simp at this
        omega
      have hmt : m.to.kind = 3 := by rw [← hof]; exact k3 o ho
      exact (h m hm).2 ((h m hm).1.2.2 (k3 m hm) hmt)
theorem inv_left {f : List Move} {m : Move} {k : Nat} (h : Inv f) (hm : m.fr.kind = 2) : Inv (leftL m k f) := by
  have key : ∀ (l : List Move) (s : List Move × Nat), (∀ x ∈ l, goodM x) → Inv s.1 → Inv (l.foldl (left1 m k) s).1 := by
    intro l
    induction l with
    | nil => intro s _ hs; exact hs
    | cons o l ih =>
      intro s hl hs
      rw [List.foldl_cons]
      refine ih _ (fun x hx => hl x (List.mem_cons_of_mem _ hx)) ?_
      have hgo := hl o List.mem_cons_self
      unfold left1
      simp only
      by_cases hc : o.fr = m.to
      · rw [if_pos hc]
        split
        · rename_i hq
          intro x hx
          rcases List.mem_append.1 hx with hx | hx
          · exact hs x hx
          · simp at hx
            subst hx
            exact ⟨⟨.inr hm, hgo.2.1, fun e => by simp only at e; omega⟩, hq.2⟩
        · exact hs
      · rw [if_neg hc]
        split
        · rename_i hq
          intro x hx
          rcases List.mem_append.1 hx with hx | hx
          · exact hs x hx
          · simp at hx
            subst hx
            exact ⟨hgo, hq.2⟩
        · exact hs
  exact key f ([], 0) (fun x hx => (h x hx).1) (fun x hx => by cases hx)
theorem order_G : ∀ (n : Nat) (f : List Move), Inv f → orderF n f = orderG n f
  | 0, f, _ => rfl
  | n + 1, f, h => by
    simp only [orderF, orderG]
    by_cases hf : f = []
    · simp [hf]
    · rw [if_neg hf, if_neg hf]
      cases hi : f.findIdx? (open_ f) with
      | some k =>
        simp only
        rw [order_G n _ fun x hx => h x (List.mem_of_mem_eraseIdx hx)]
      | none =>
        simp only
        obtain ⟨k, hk, e1, e2⟩ := pre_of h hf hi
        rw [e1, e2]
        have hkl : k < f.length := (List.findIdx?_eq_some_iff_getElem.1 hk).1
        have h2 : f[k]!.fr.kind = 2 := by
          obtain ⟨hk', hp, _⟩ := List.findIdx?_eq_some_iff_getElem.1 hk
          have := get_bang hkl
          rw [List.getElem?_eq_getElem hk'] at this
          rw [← Option.some.inj this]
          simpa using hp
        rw [order_G n _ (inv_left h h2)]
theorem split_inv (l : List Move) (h : ∀ m ∈ l, goodM m) : Inv (split l).1 := by
  have key : ∀ (l : List Move) (s : List Move × List Move), (∀ m ∈ l, goodM m) → Inv s.1 → Inv (l.foldl split1 s).1 := by
    intro l
    induction l with
    | nil => intro s _ hs; exact hs
    | cons m l ih =>
      intro s hl hs
      rw [List.foldl_cons]
      refine ih _ (fun x hx => hl x (List.mem_cons_of_mem _ hx)) ?_
      unfold split1
      split
      · exact hs
      · rename_i hne
        split
        · exact hs
        · intro x hx
          rcases List.mem_append.1 hx with hx | hx
          · exact hs x hx
          · simp at hx
            subst hx
            exact ⟨hl _ List.mem_cons_self, hne⟩
  exact key l ([], []) h (fun x hx => by cases hx)
theorem order_eq (l : List Move) (h : plainS l = true) : order l = refOrder l := by
  unfold plainS at h
  simp only [Bool.and_eq_true, List.all_eq_true, decide_eq_true_eq] at h
  unfold order refOrder
  rw [order_G _ _ (split_inv l h.1)]
end Go.Proofs.Ytapfnhhedieebaa.X
