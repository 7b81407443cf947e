/- Package op: each operation is found by its name, and no other text finds one; there is no condition. -/
import Derived.Test.YtnlemjfkgbgogaaPureOpPlaces
namespace Go.Proofs.Ytnlemjfkgbgogaa.Pure
open Go.RowKit Go.Proofs.Ytnlemjfkgbgogaa.P Go.Proofs.YtnlemjfkgbgogaaW.PrintWords Go.Proofs.YtnlemjfkgbgogaaW.PrintLast
set_option linter.unusedVariables false

def chkFind (n : Int) : Bool := op_Find.f 64 (X.rowOf n).nm == some (n, true)
theorem find_all : ((List.range 27).all fun n => chkFind ((n : Int) + 1)) = true := by kernel_rfl
theorem find_empty : op_Find.f 64 (⟨#[]⟩ : ByteArray) = some (0, false) := by kernel_rfl
theorem find_up {s : ByteArray} {r : Int × Bool} (h : op_Find.f 64 s = some r) {k : Nat} (hk : 64 ≤ k) : op_Find.f k s = some r := at_rounds (g := fun k => op_Find.f k s) (fun k => op_Find.mono s k) hk h
theorem find_name (n : Int) : op_Find.f 64 (X.rowOf n).nm = some (if 1 ≤ n ∧ n ≤ 27 then (n, true) else (0, false)) := by
  by_cases hn : 1 ≤ n ∧ n ≤ 27
  · rw [if_pos hn]
    have h := List.all_eq_true.mp find_all (n - 1).toNat (List.mem_range.mpr (by omega))
    rw [show (((n - 1).toNat : Int) + 1) = n by omega] at h
    simpa [chkFind] using h
  · rw [if_neg hn, row_out n (by omega)]
    exact find_empty
theorem find_any (s : ByteArray) (d : Nat) : ∀ (k : Nat) (x : Int), 1 ≤ x → 28 - x = d → d < k → ∃ r, op_Find.l0 k s x = some r ∧ r.2 = X.isOp r.1 ∧ (r.2 = true → (X.rowOf r.1).nm.toList = s.toList) := by
  induction d with
  | zero =>
    intro k x h1 hd hk
    obtain ⟨k, rfl⟩ : ∃ m, k = m + 1 := ⟨k - 1, by omega⟩
    exact ⟨(0, false), by rw [op_Find.l0, if_neg (by omega)], by decide, by simp⟩
  | succ d ih =>
    intro k x h1 hd hk
    obtain ⟨k, rfl⟩ : ∃ m, k = m + 1 := ⟨k - 1, by omega⟩
    by_cases he : (X.rowOf x).nm.toList = s.toList
    · refine ⟨(x, true), ?_, ?_, fun _ => he⟩
      · rw [op_Find.l0, if_pos (by omega), op_Name.f, Option.bind_some, if_pos he]
      · simp only [X.isOp]
        exact (decide_eq_true (by omega)).symm
    · obtain ⟨r, hr, h⟩ := ih k (x + 1) (by omega) (by omega) (by omega)
      refine ⟨r, ?_, h⟩
      rw [op_Find.l0, if_pos (by omega), op_Name.f, Option.bind_some, if_neg he, show wrap64 (x + 1) = x + 1 by unfold wrap64; omega]
      exact hr
theorem known (n : Int) : ∃ x, dyehouseref11_Find.f 64 n = some x ∧ x.2.2.2.2.2 = decide (1 ≤ n ∧ n ≤ 27) := by
  by_cases hn : 1 ≤ n ∧ n ≤ 27
  · have h := row_in n hn.1 hn.2
    unfold chkRow at h
    split at h
    · cases h
    · rename_i x hx
      simp only [Bool.and_eq_true, decide_eq_true_eq, beq_iff_eq] at h
      exact ⟨x, hx, by rw [h.2, decide_eq_true hn]⟩
  · exact ⟨_, find_out n (by omega), by rw [decide_eq_false hn]⟩
theorem last (s : ByteArray) : dyehouselaw11_OpNames.j0 65 s false = some true := by
  obtain ⟨r, hr, h1, h2⟩ := find_any s 27 64 1 (by omega) (by omega) (by omega)
  rw [dyehouselaw11_OpNames.j0, if_neg (by decide), show op_Find.f 64 s = some r from hr, Option.bind_some, op_Is.f, Option.bind_some, if_pos (by rw [h1]; simp), works_at (by omega)]
  cases hb : r.2
  · rw [if_neg (by decide)]
    rfl
  · rw [if_pos rfl, op_Name.f, Option.bind_some, if_pos (h2 hb)]
    rfl
theorem OpNames : dyehouselaw11_OpNames.Pure := by
  intro n s _ _
  obtain ⟨x, hx, hb⟩ := known n
  refine ⟨65, ?_⟩
  unfold dyehouselaw11_OpNames.f
  rw [op_Name.f, Option.bind_some, find_up (find_name n) (by omega), Option.bind_some, at_rounds (g := fun k => dyehouseref11_Find.f k n) (fun k => dyehouseref11_Find.mono n k) (show 64 ≤ 65 by omega) hx, Option.bind_some, hb]
  by_cases hn : 1 ≤ n ∧ n ≤ 27
  · rw [if_pos hn, decide_eq_true hn, if_neg (by simp), if_pos rfl, show (n != n) = false by simp]
    exact last s
  · rw [if_neg hn, decide_eq_false hn, if_neg (by simp), if_neg (by simp)]
    exact last s
end Go.Proofs.Ytnlemjfkgbgogaa.Pure
