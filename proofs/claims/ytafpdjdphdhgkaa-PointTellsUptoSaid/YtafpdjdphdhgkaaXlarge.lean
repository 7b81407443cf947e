/- That the count of a function's size comes to an end, for functions whose lists are not too long. -/
import Derived.Test.YtafpdjdphdhgkaaPx2
namespace Go.Proofs.Ytafpdjdphdhgkaa.X
open Go.RowKit Go.Proofs.Ytafpdjdphdhgkaa.P Go.Proofs.YtafpdjdphdhgkaaW.PrintWords Go.Proofs.YtafpdjdphdhgkaaW.PrintLast Go.Proofs.YtafpdjdphdhgkaaW.PrintMore
set_option linter.unusedVariables false
theorem wrap_one (x : Int) (n : Nat) (h0 : 0 ≤ x) (h1 : x < n) (hn : n ≤ 1048576) : wrap64 (x + 1) = x + 1 := by
  unfold wrap64
  omega
/-- Nothing in these blocks is longer than this. -/
def Short (l : List S35) : Prop := l.length ≤ 1048576 ∧ ∀ b ∈ l, b.f3.length ≤ 1048576 ∧ ∀ x ∈ b.f3, x.f5.length ≤ 1048576
theorem rd_mem {α : Type} (l : List α) (z : α) (i : Int) (h0 : 0 ≤ i) (h1 : i < l.length) : l.getD i.toNat z ∈ l := by
  rw [List.getD_eq_getElem?_getD, List.getElem?_eq_getElem (show i.toNat < l.length by omega)]
  exact List.getElem_mem _
section
variable (a0 : Bool) (a1 : ByteArray) (l2 : List S74) (l3 : List S45) (l4 : List S35)
theorem large_l2 (x4 x5 : Int) (y0 y1 y2 y3 y4 : Int) (y5 : List S45) (y6 : ByteArray) (y7 : Int) (y8 : List ByteArray) (y9 : List Int) (hy : y8.length ≤ 1048576)
    (next : ∀ x3, ∃ r, Ev (fun k => dyehouseref12_Large.l1 k x3 x4 (wrap64 (x5 + 1)) a0 a1 l2 l3 l4) r) (d : Nat) :
    ∀ (x3 x7 : Int), 0 ≤ x7 → (y8.length : Int) - x7 ≤ d → ∃ r, Ev (fun k => dyehouseref12_Large.l2 k x3 x4 x5 x7 a0 a1 l2 l3 l4 y0 y1 y2 y3 y4 y5 y6 y7 y8 y9) r := by
  induction d with
  | zero =>
    intro x3 x7 h0 hd
    obtain ⟨r, hr⟩ := next x3
    exact ⟨r, Ev.step (fun k => by rw [dyehouseref12_Large.l2, if_neg (by omega)]) hr⟩
  | succ d ih =>
    intro x3 x7 h0 hd
    by_cases h : x7 < (y8.length : Int)
    · obtain ⟨r, hr⟩ := ih (wrap64 ((wrap64 (x3 + 1)) + ((rdOf ByteArray.empty y8 x7).size : Int))) (x7 + 1) (by omega) (by omega)
      exact ⟨r, Ev.step (fun k => by rw [dyehouseref12_Large.l2, if_pos h, if_pos h0, wrap_one x7 y8.length h0 h hy]) hr⟩
    · obtain ⟨r, hr⟩ := next x3
      exact ⟨r, Ev.step (fun k => by rw [dyehouseref12_Large.l2, if_neg h]) hr⟩
theorem large_l1 (hs : Short l4) (x4 : Int) (h0 : 0 ≤ x4) (h4 : x4 < l4.length)
    (next : ∀ x3, ∃ r, Ev (fun k => dyehouseref12_Large.l0 k x3 (wrap64 (x4 + 1)) a0 a1 l2 l3 l4) r) (d : Nat) :
    ∀ (x3 x5 : Int), 0 ≤ x5 → ((rd_T35 l4 x4).f3.length : Int) - x5 ≤ d → ∃ r, Ev (fun k => dyehouseref12_Large.l1 k x3 x4 x5 a0 a1 l2 l3 l4) r := by
  have hb := hs.2 _ (rd_mem l4 z35 x4 h0 h4)
  induction d with
  | zero =>
    intro x3 x5 h5 hd
    obtain ⟨r, hr⟩ := next x3
    exact ⟨r, Ev.step (fun k => by rw [dyehouseref12_Large.l1, if_pos h0, if_pos h4, if_neg (by omega)]) hr⟩
  | succ d ih =>
    intro x3 x5 h5 hd
    by_cases h : x5 < ((rd_T35 l4 x4).f3.length : Int)
    · have hx := hb.2 _ (rd_mem _ z49 x5 h5 h)
      have nx : ∀ x3, ∃ r, Ev (fun k => dyehouseref12_Large.l1 k x3 x4 (wrap64 (x5 + 1)) a0 a1 l2 l3 l4) r := fun x3 => by
        rw [wrap_one x5 _ h5 h hb.1]
        exact ih x3 (x5 + 1) (by omega) (by omega)
      obtain ⟨r, hr⟩ := large_l2 a0 a1 l2 l3 l4 x4 x5 _ _ _ _ _ _ _ _ _ _ hx nx _ (wrap64 ((wrap64 ((wrap64 ((wrap64 (x3 + 1)) + (((rd_T49 ((rd_T35 l4 x4).f3) x5).f2).length : Int))) + (((rd_T49 ((rd_T35 l4 x4).f3) x5).f3).size : Int))) + (((rd_T49 ((rd_T35 l4 x4).f3) x5).f6).length : Int))) 0 (by omega) (by rw [Int.sub_zero]; exact Int.le_refl _)
      exact ⟨r, Ev.step (fun k => by rw [dyehouseref12_Large.l1, if_pos h0, if_pos h4, if_pos h, if_pos h5]; rfl) hr⟩
    · obtain ⟨r, hr⟩ := next x3
      exact ⟨r, Ev.step (fun k => by rw [dyehouseref12_Large.l1, if_pos h0, if_pos h4, if_neg h]) hr⟩
theorem large_l0 (hs : Short l4) (d : Nat) : ∀ (x3 x4 : Int), 0 ≤ x4 → (l4.length : Int) - x4 ≤ d → ∃ r, Ev (fun k => dyehouseref12_Large.l0 k x3 x4 a0 a1 l2 l3 l4) r := by
  have stop : ∀ x3 x4, ¬ x4 < (l4.length : Int) → ∃ r, Ev (fun k => dyehouseref12_Large.l0 k x3 x4 a0 a1 l2 l3 l4) r := fun x3 x4 h => by
    by_cases h3 : x3 > 2000
    · exact ⟨true, 1, fun k hk => by obtain ⟨k, rfl⟩ : ∃ m, k = m + 1 := ⟨k - 1, by omega⟩; simp only [dyehouseref12_Large.l0]; rw [if_neg h, if_pos h3]⟩
    · exact ⟨_, 1, fun k hk => by obtain ⟨k, rfl⟩ : ∃ m, k = m + 1 := ⟨k - 1, by omega⟩; simp only [dyehouseref12_Large.l0]; rw [if_neg h, if_neg h3]⟩
  induction d with
  | zero => exact fun x3 x4 h0 hd => stop x3 x4 (by omega)
  | succ d ih =>
    intro x3 x4 h0 hd
    by_cases h : x4 < (l4.length : Int)
    · have nx : ∀ x3, ∃ r, Ev (fun k => dyehouseref12_Large.l0 k x3 (wrap64 (x4 + 1)) a0 a1 l2 l3 l4) r := fun x3 => by
        rw [wrap_one x4 _ h0 h hs.1]
        exact ih x3 (x4 + 1) (by omega) (by omega)
      obtain ⟨r, hr⟩ := large_l1 a0 a1 l2 l3 l4 hs x4 h0 h nx _ (wrap64 ((wrap64 (x3 + (((rd_T35 l4 x4).f0).size : Int))) + (((rd_T35 l4 x4).f2).length : Int))) 0 (by omega) (by rw [Int.sub_zero]; exact Int.le_refl _)
      exact ⟨r, Ev.step (fun k => by rw [dyehouseref12_Large.l0, if_pos h, if_pos h0]) hr⟩
    · exact stop x3 x4 h
theorem large_ends (hs : Short l4) : ∃ k r, dyehouseref12_Large.f k a0 a1 l2 l3 l4 = some r := by
  obtain ⟨r, hr⟩ := large_l0 a0 a1 l2 l3 l4 hs l4.length (wrap64 ((wrap64 ((a1.size : Int) + (l2.length : Int))) + (l3.length : Int))) 0 (by omega) (by omega)
  obtain ⟨k, hk⟩ := Ev.rounds hr
  exact ⟨k, r, hk⟩
end
end Go.Proofs.Ytafpdjdphdhgkaa.X
