/- The document's answers of points, as numbers: what Count, First, Point and lenOf compute. -/
import Derived.Test.YtafpdjdphdhgkaaXptD
import Derived.Test.YtafpdjdphdhgkaaXlarge
namespace Go.Proofs.Ytafpdjdphdhgkaa.X
open Go.RowKit Go.Proofs.Ytafpdjdphdhgkaa.P Go.Proofs.YtafpdjdphdhgkaaW.PrintWords Go.Proofs.YtafpdjdphdhgkaaW.PrintLast Go.Proofs.YtafpdjdphdhgkaaW.PrintMore
set_option linter.unusedVariables false
set_option linter.unusedSimpArgs false
section
variable (a0 : Bool) (a1 : ByteArray) (l2 : List S74) (l3 : List S45) (l4 : List S35)
theorem rc_l0 (hb : S (codes l4) l4.length ≤ 1048576) (hn : l4.length ≤ 1048576) (d : Nat) : ∀ j, j + d = l4.length → Ev (fun k => dyehouseref24_Count.l0 k (S (codes l4) j : Int) (j : Int) a0 a1 l2 l3 l4) (S (codes l4) l4.length : Int) := by
  induction d with
  | zero =>
    intro j h
    obtain rfl : j = l4.length := by omega
    exact ⟨1, fun k hk => by obtain ⟨k, rfl⟩ : ∃ m, k = m + 1 := ⟨k - 1, by omega⟩; simp only [dyehouseref24_Count.l0]; rw [if_neg (by omega)]⟩
  | succ d ih =>
    intro j h
    have hj : j < l4.length := by omega
    have e : S (codes l4) (j + 1) = S (codes l4) j + cnt (codes l4) j := rfl
    have h2 := S_mono (codes l4) (j + 1) l4.length (by omega)
    have h3 := codes_at l4 j hj
    refine Ev.step (fun k => ?_) (ih (j + 1) (by omega))
    rw [dyehouseref24_Count.l0, if_pos (by omega), if_pos (by omega), ← h3, wrap_small (_ + _) (by omega) (by omega), wrap_small _ (by omega) (by omega), e]
    congr 1
theorem rf_l0 (hb : S (codes l4) l4.length ≤ 1048576) (hn : l4.length ≤ 1048576) (b : Nat) (hbn : b ≤ l4.length) (d : Nat) : ∀ j, j + d = b → Ev (fun k => dyehouseref24_First.l0 k (b : Int) (S (codes l4) j : Int) (j : Int) a0 a1 l2 l3 l4) (S (codes l4) b : Int) := by
  induction d with
  | zero =>
    intro j h
    obtain rfl : j = b := by omega
    exact ⟨1, fun k hk => by obtain ⟨k, rfl⟩ : ∃ m, k = m + 1 := ⟨k - 1, by omega⟩; simp only [dyehouseref24_First.l0]; rw [if_neg (by omega)]⟩
  | succ d ih =>
    intro j h
    have hj : j < l4.length := by omega
    have e : S (codes l4) (j + 1) = S (codes l4) j + cnt (codes l4) j := rfl
    have h2 := S_mono (codes l4) (j + 1) l4.length (by omega)
    have h3 := codes_at l4 j hj
    refine Ev.step (fun k => ?_) (ih (j + 1) (by omega))
    rw [dyehouseref24_First.l0, if_pos (by omega), if_pos (by omega), if_pos (by omega), ← h3, wrap_small (_ + _) (by omega) (by omega), wrap_small _ (by omega) (by omega), e]
    congr 1
/-- The block of a point, as the document says. -/
def IsBlock (cs : List Nat) (n : Nat) (p v : Int) : Prop := (∃ b m, b < n ∧ S cs b ≤ m ∧ m < S cs (b + 1) ∧ (p = 2 * m ∨ p = 2 * m + 1) ∧ v = if p = 2 * m + 1 ∧ m + 1 = S cs (b + 1) then -1 else (b : Int)) ∨ ((p < 0 ∨ 2 * (S cs n : Int) ≤ p) ∧ v = -1)
def PointR (cs : List Nat) (n : Nat) (p : Int) (r : Int × Int × Bool × Bool) : Prop := IsBlock cs n p (if r.2.2.2 = true then r.1 else -1)
theorem rp_l1 (p : Int) (hb : S (codes l4) l4.length ≤ 1048576) (hn : l4.length ≤ 1048576) (b : Nat) (hbn : b < l4.length)
    (next : (p < 0 ∨ 2 * (S (codes l4) (b + 1) : Int) ≤ p) → ∃ r, Ev (fun k => dyehouseref24_Point.l0 k p (S (codes l4) (b + 1) : Int) ((b : Int) + 1) a0 a1 l2 l3 l4) r ∧ PointR (codes l4) l4.length p r) (d : Nat) :
    ∀ i, i + d = cnt (codes l4) b → (p < 0 ∨ 2 * ((S (codes l4) b : Int) + i) ≤ p) → ∃ r, Ev (fun k => dyehouseref24_Point.l1 k p ((S (codes l4) b : Int) + i) (b : Int) (i : Int) a0 a1 l2 l3 l4) r ∧ PointR (codes l4) l4.length p r := by
  have e : S (codes l4) (b + 1) = S (codes l4) b + cnt (codes l4) b := rfl
  have h2 := S_mono (codes l4) (b + 1) l4.length (by omega)
  have h3 := codes_at l4 b hbn
  induction d with
  | zero =>
    intro i h hp
    obtain ⟨r, hr, hq⟩ := next (by omega)
    refine ⟨r, Ev.step (fun k => ?_) hr, hq⟩
    rw [dyehouseref24_Point.l1, if_pos (by omega), if_pos (by omega), ← h3, if_neg (by omega), wrap_small ((b : Int) + 1) (by omega) (by omega), e]
    congr 1
    omega
  | succ d ih =>
    intro i h hp
    have w1 : wrap64 (2 * ((S (codes l4) b : Int) + i)) = 2 * ((S (codes l4) b : Int) + i) := wrap_small _ (by omega) (by omega)
    have w2 : wrap64 (2 * ((S (codes l4) b : Int) + i) + 1) = 2 * ((S (codes l4) b : Int) + i) + 1 := wrap_small _ (by omega) (by omega)
    by_cases h4 : p = 2 * ((S (codes l4) b : Int) + i)
    · refine ⟨(b, i, false, true), ⟨1, fun k hk => ?_⟩, ?_⟩
      · obtain ⟨k, rfl⟩ : ∃ m, k = m + 1 := ⟨k - 1, by omega⟩
        simp only [dyehouseref24_Point.l1]
        rw [if_pos (by omega), if_pos (by omega), ← h3, if_pos (by omega), w1, if_pos h4]
      · refine Or.inl ⟨b, S (codes l4) b + i, hbn, by omega, by omega, by omega, ?_⟩
        rw [if_pos rfl, if_neg (by omega)]
    · by_cases h5 : p = 2 * ((S (codes l4) b : Int) + i) + 1
      · refine ⟨(b, i, true, !((i : Int) == wrap64 ((cnt (codes l4) b : Int) - 1))), ⟨1, fun k hk => ?_⟩, ?_⟩
        · obtain ⟨k, rfl⟩ : ∃ m, k = m + 1 := ⟨k - 1, by omega⟩
          simp only [dyehouseref24_Point.l1]
          rw [if_pos (by omega), if_pos (by omega), ← h3, if_pos (by omega), w1, if_neg h4, w2, if_pos h5]
        · refine Or.inl ⟨b, S (codes l4) b + i, hbn, by omega, by omega, by omega, ?_⟩
          show (if (!((i : Int) == wrap64 ((cnt (codes l4) b : Int) - 1))) = true then (b : Int) else -1) = _
          rw [wrap_small _ (by omega) (by omega)]
          by_cases h6 : (i : Int) = (cnt (codes l4) b : Int) - 1
          · rw [if_neg (by simp [h6]), if_pos (by omega)]
          · rw [if_pos (by simpa using h6), if_neg (by omega)]
      · obtain ⟨r, hr, hq⟩ := ih (i + 1) (by omega) (by omega)
        refine ⟨r, Ev.step (fun k => ?_) hr, hq⟩
        rw [dyehouseref24_Point.l1, if_pos (by omega), if_pos (by omega), ← h3, if_pos (by omega), w1, if_neg h4, w2, if_neg h5, wrap_small (_ + 1) (by omega) (by omega), wrap_small (_ + 1) (by omega) (by omega)]
        congr 1
theorem rp_l0 (p : Int) (hb : S (codes l4) l4.length ≤ 1048576) (hn : l4.length ≤ 1048576) (d : Nat) :
    ∀ b, b + d = l4.length → (p < 0 ∨ 2 * (S (codes l4) b : Int) ≤ p) → ∃ r, Ev (fun k => dyehouseref24_Point.l0 k p (S (codes l4) b : Int) (b : Int) a0 a1 l2 l3 l4) r ∧ PointR (codes l4) l4.length p r := by
  induction d with
  | zero =>
    intro b h hp
    obtain rfl : b = l4.length := by omega
    refine ⟨(-1, -1, false, false), ⟨1, fun k hk => ?_⟩, Or.inr ⟨hp, rfl⟩⟩
    obtain ⟨k, rfl⟩ : ∃ m, k = m + 1 := ⟨k - 1, by omega⟩
    simp only [dyehouseref24_Point.l0]
    rw [if_neg (by omega)]
  | succ d ih =>
    intro b h hp
    obtain ⟨r, hr, hq⟩ := rp_l1 a0 a1 l2 l3 l4 p hb hn b (by omega) (fun hp => ih (b + 1) (by omega) hp) _ 0 (Nat.zero_add _) (by omega)
    refine ⟨r, Ev.step (fun k => ?_) hr, hq⟩
    rw [dyehouseref24_Point.l0, if_pos (by omega), show (S (codes l4) b : Int) + ((0 : Nat) : Int) = (S (codes l4) b : Int) from Int.add_zero _]
    rfl
theorem rl_val (b : Int) : dyehouselaw24_lenOf.f a0 a1 l2 l3 l4 b = some (lenB (tabOf (codes l4) l4.length) b) ∨ ¬ S (codes l4) l4.length ≤ 1048576 := by
  by_cases hb : S (codes l4) l4.length ≤ 1048576
  · left
    unfold dyehouselaw24_lenOf.f
    by_cases h0 : b < 0
    · rw [if_pos h0, lenB_none _ _ _ (by omega)]
    · by_cases h1 : b ≥ (l4.length : Int)
      · rw [if_neg h0, if_pos h1, lenB_none _ _ _ (by omega)]
      · obtain ⟨j, rfl⟩ : ∃ j : Nat, b = j := ⟨b.toNat, by omega⟩
        rw [if_neg h0, if_neg h1, if_pos (by omega), if_pos (by omega), lenB_tab _ _ hb j (by omega), codes_at l4 j (by omega)]
  · exact Or.inr hb
end
end Go.Proofs.Ytafpdjdphdhgkaa.X
