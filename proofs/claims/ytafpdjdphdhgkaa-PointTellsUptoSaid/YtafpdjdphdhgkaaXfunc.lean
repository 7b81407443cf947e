/- A function that is read, laid open; and that a small one has short lists alone. -/
import Derived.Test.YtafpdjdphdhgkaaXopent
import Derived.Test.YtafpdjdphdhgkaaXspans
namespace Go.Proofs.Ytafpdjdphdhgkaa.X
open Go.RowKit Go.Proofs.Ytafpdjdphdhgkaa.P Go.Proofs.YtafpdjdphdhgkaaW.PrintWords
set_option linter.unusedVariables false
theorem func_open {w : World} {x : S26} {cs : List Value} (h : k26.K w x cs) : ∃ A2 c2 A3 c3 A4 c4, cs = [.bool x.f0, .string x.f1, .slice A2 x.f2.length c2, .slice A3 x.f3.length c3, .slice A4 x.f4.length c4] ∧ x.f2.length ≤ c2 ∧ Kd.C k74 w A2 x.f2.length x.f2 ∧ x.f3.length ≤ c3 ∧ Kd.C k45 w A3 x.f3.length x.f3 ∧ x.f4.length ≤ c4 ∧ Kd.C k35 w A4 x.f4.length x.f4 := by
  obtain ⟨_, _, rfl, rfl, ⟨_, _, rfl, rfl, ⟨_, _, rfl, ⟨A2, c2, rfl, l2, g2⟩, ⟨_, _, rfl, ⟨A3, c3, rfl, l3, g3⟩, ⟨A4, c4, rfl, l4, g4⟩⟩⟩⟩⟩ := h
  exact ⟨A2, c2, A3, c3, A4, c4, rfl, l2, g2, l3, g3, l4, g4⟩
theorem sumM_len {α : Type} (m : α → Nat) (h : ∀ x, 1 ≤ m x) (l : List α) : l.length ≤ sumM m l := by
  induction l with
  | nil => exact Nat.le_refl _
  | cons x r ih => simp only [List.length_cons, sumM]; have := h x; omega
theorem sumM_mem {α : Type} (m : α → Nat) (l : List α) (x : α) (h : x ∈ l) : m x ≤ sumM m l := by
  induction l with
  | nil => cases h
  | cons y r ih =>
    simp only [sumM]
    rcases List.mem_cons.mp h with rfl | h
    · omega
    · have := ih h
      omega
theorem S_codes (l : List S35) : ∀ j, j ≤ l.length → S (codes l) j ≤ sumM m35 l := by
  have key : ∀ (l r : List S35), S (codes (l ++ r)) l.length = S (codes l) l.length := by
    intro l r
    have : ∀ j, j ≤ l.length → S (codes (l ++ r)) j = S (codes l) j := by
      intro j
      induction j with
      | zero => intro _; rfl
      | succ j ih =>
        intro h
        have e : cnt (codes (l ++ r)) j = cnt (codes l) j := by
          simp only [cnt, codes, List.map_append, List.getD_eq_getElem?_getD]
          rw [List.getElem?_append_left (by rw [List.length_map]; omega)]
        simp only [S, e, ih (by omega)]
    exact this _ (Nat.le_refl _)
  have all : ∀ n (l : List S35), l.length = n → S (codes l) l.length ≤ sumM m35 l := by
    intro n
    induction n with
    | zero =>
      intro l h
      rw [h]
      exact Nat.zero_le _
    | succ n ih =>
      intro l h
      obtain ⟨r, x, rfl⟩ : ∃ r x, l = r ++ [x] := by
        refine ⟨l.dropLast, l.getLast (by intro e; rw [e] at h; simp at h), (List.dropLast_concat_getLast _).symm⟩
      have h1 : r.length = n := by simp at h; omega
      have e1 : S (codes (r ++ [x])) (r ++ [x]).length = S (codes (r ++ [x])) r.length + cnt (codes (r ++ [x])) r.length := by
        rw [List.length_append, List.length_singleton]
        rfl
      have e2 : cnt (codes (r ++ [x])) r.length = x.f3.length := by
        simp [cnt, codes]
      have e3 : sumM m35 (r ++ [x]) = sumM m35 r + m35 x := by
        clear h e1 e2 ih h1
        induction r with
        | nil => simp [sumM]
        | cons y r ih => simp only [List.cons_append, sumM, ih]; omega
      rw [e1, e2, key, e3]
      have := ih r h1
      have h4 : x.f3.length ≤ m35 x := by
        have := sumM_len m49 (fun x => by simp only [m49]; omega) x.f3
        simp only [m35]
        omega
      omega
  intro j hj
  exact Nat.le_trans (S_mono _ j l.length hj) (all l.length l rfl)
theorem func_small (x : S26) (h : m26 x ≤ 1048576) : Short x.f4 ∧ S (codes x.f4) x.f4.length ≤ 1048576 := by
  have h4 : sumM m35 x.f4 ≤ 1048576 := by
    simp only [m26] at h
    omega
  have hl := sumM_len m35 (fun x => by simp only [m35]; omega) x.f4
  refine ⟨⟨by omega, fun b hb => ?_⟩, Nat.le_trans (S_codes x.f4 _ (Nat.le_refl _)) h4⟩
  have hb1 := sumM_mem m35 x.f4 b hb
  have hb2 : sumM m49 b.f3 ≤ m35 b := by
    simp only [m35]
    omega
  have hb3 := sumM_len m49 (fun x => by simp only [m49]; omega) b.f3
  refine ⟨by omega, fun y hy => ?_⟩
  have hy1 := sumM_mem m49 b.f3 y hy
  have hy2 : sumM (fun s : ByteArray => s.size + 1) y.f5 ≤ m49 y := by
    simp only [m49]
    omega
  have hy3 := sumM_len (fun s : ByteArray => s.size + 1) (fun s => by omega) y.f5
  omega
end Go.Proofs.Ytafpdjdphdhgkaa.X
