/- Points: the numbers of a table, in plain arithmetic; that the search in it finds; that the count of a function's size ends. -/
import Derived.Test.YtafpdjdphdhgkaaXptC
namespace Go.Proofs.Ytafpdjdphdhgkaa.X
open Go.RowKit Go.Proofs.Ytafpdjdphdhgkaa.P Go.Proofs.YtafpdjdphdhgkaaW.PrintWords Go.Proofs.YtafpdjdphdhgkaaW.PrintLast Go.Proofs.YtafpdjdphdhgkaaW.PrintMore
set_option linter.unusedVariables false
set_option linter.unusedSimpArgs false

/-- How many instructions the first j blocks have. -/
def S (cs : List Nat) : Nat → Nat
  | 0 => 0
  | j + 1 => S cs j + cnt cs j
theorem S_mono (cs : List Nat) (i j : Nat) (h : i ≤ j) : S cs i ≤ S cs j := by
  induction j with
  | zero => rw [Nat.le_zero.mp h]; exact Nat.le_refl _
  | succ j ih =>
    rcases Nat.lt_or_ge i (j + 1) with h1 | h1
    · exact Nat.le_trans (ih (by omega)) (Nat.le_add_right _ _)
    · rw [show i = j + 1 by omega]; exact Nat.le_refl _
theorem upTo_eq (cs : List Nat) (n : Nat) (hb : S cs n ≤ 1048576) : ∀ j, j ≤ n → upTo cs j = (S cs j : Int) := by
  intro j
  induction j with
  | zero => intro _; rfl
  | succ j ih =>
    intro h
    have h1 := S_mono cs (j + 1) n h
    have e : S cs (j + 1) = S cs j + cnt cs j := rfl
    rw [upTo, ih (by omega)]
    unfold wrap64
    omega
theorem tab_get (cs : List Nat) (n j : Nat) (h : j ≤ n) : (tabOf cs n).getD j 0 = upTo cs j := by
  induction n with
  | zero => rw [Nat.le_zero.mp h]; rfl
  | succ n ih =>
    rw [tabOf]
    rcases Nat.lt_or_ge j (n + 1) with h1 | h1
    · rw [List.getD_eq_getElem?_getD, List.getElem?_append_left (by rw [tabOf_length]; exact h1), ← List.getD_eq_getElem?_getD]
      exact ih (by omega)
    · have e : j = n + 1 := by omega
      subst e
      rw [List.getD_eq_getElem?_getD, List.getElem?_append_right (by rw [tabOf_length]; omega), tabOf_length]
      simp
theorem tab_rd (cs : List Nat) (n : Nat) (hb : S cs n ≤ 1048576) (j : Int) (h0 : 0 ≤ j) (h1 : j ≤ n) : rd (tabOf cs n) j = (S cs j.toNat : Int) := by
  unfold rd
  rw [tab_get cs n j.toNat (by omega), upTo_eq cs n hb _ (by omega)]
theorem tab_len (cs : List Nat) (n : Nat) : ((tabOf cs n).length : Int) - 1 = (n : Int) := by
  rw [tabOf_length]
  omega
theorem wrap_small (x : Int) (h0 : -4611686018427387904 ≤ x) (h1 : x ≤ 4611686018427387904) : wrap64 x = x := by
  unfold wrap64
  omega
theorem lenB_tab (cs : List Nat) (n : Nat) (hb : S cs n ≤ 1048576) (b : Nat) (h : b < n) : lenB (tabOf cs n) b = (cnt cs b : Int) := by
  have e : S cs (b + 1) = S cs b + cnt cs b := rfl
  have h1 := S_mono cs (b + 1) n (by omega)
  unfold lenB
  rw [if_pos ⟨by omega, by rw [tab_len]; omega⟩, tab_rd cs n hb _ (by omega) (by omega), tab_rd cs n hb _ (by omega) (by omega)]
  rw [show ((b : Int) + 1).toNat = b + 1 by omega, show ((b : Int)).toNat = b by omega, e, wrap_small _ (by omega) (by omega)]
  omega
theorem lenB_none (cs : List Nat) (n : Nat) (b : Int) (h : b < 0 ∨ n ≤ b) : lenB (tabOf cs n) b = 0 := by
  unfold lenB
  rw [if_neg (by rw [tab_len]; omega)]
theorem ofB_tab (cs : List Nat) (n : Nat) (hb : S cs n ≤ 1048576) (b : Nat) (h : b < n) (i : Int) (h0 : 0 ≤ i) (h1 : i < cnt cs b) : ofB (tabOf cs n) b i = (S cs b : Int) + i := by
  have e : S cs (b + 1) = S cs b + cnt cs b := rfl
  have h2 := S_mono cs (b + 1) n (by omega)
  unfold ofB
  rw [lenB_tab cs n hb b h, if_pos ⟨h0, h1⟩, tab_rd cs n hb _ (by omega) (by omega), show ((b : Int)).toNat = b by omega, wrap_small _ (by omega) (by omega)]
theorem ofB_none (cs : List Nat) (n : Nat) (hb : S cs n ≤ 1048576) (b : Nat) (h : b < n) (i : Int) (h1 : i < 0 ∨ cnt cs b ≤ i) : ofB (tabOf cs n) b i = -1 := by
  unfold ofB
  rw [lenB_tab cs n hb b h, if_neg (by omega)]
theorem aheadB_tab (cs : List Nat) (n : Nat) (hb : S cs n ≤ 1048576) (b : Nat) (h : b < n) (i : Int) (h0 : 0 ≤ i) (h1 : i < cnt cs b) : aheadB (tabOf cs n) b i = 2 * ((S cs b : Int) + i) := by
  have e : S cs (b + 1) = S cs b + cnt cs b := rfl
  have h2 := S_mono cs (b + 1) n (by omega)
  unfold aheadB
  rw [ofB_tab cs n hb b h i h0 h1, if_neg (by omega), wrap_small _ (by omega) (by omega)]
theorem behindB_tab (cs : List Nat) (n : Nat) (hb : S cs n ≤ 1048576) (b : Nat) (h : b < n) (i : Int) (h0 : 0 ≤ i) (h1 : i < cnt cs b) : behindB (tabOf cs n) b i = if i = (cnt cs b : Int) - 1 then -1 else 2 * ((S cs b : Int) + i) + 1 := by
  have e : S cs (b + 1) = S cs b + cnt cs b := rfl
  have h2 := S_mono cs (b + 1) n (by omega)
  unfold behindB
  rw [lenB_tab cs n hb b h, ofB_tab cs n hb b h i h0 h1, wrap_small _ (by omega) (by omega)]
  split
  · rfl
  · rw [if_neg (by omega), wrap_small (2 * _) (by omega) (by omega), wrap_small _ (by omega) (by omega)]
theorem spanB_tab (cs : List Nat) (n : Nat) (hb : S cs n ≤ 1048576) (b : Nat) (h : b < n) : spanB (tabOf cs n) b = if cnt cs b = 0 then (0, 0) else (2 * (S cs b : Int), 2 * (S cs (b + 1) : Int) - 1) := by
  have e : S cs (b + 1) = S cs b + cnt cs b := rfl
  have h2 := S_mono cs (b + 1) n (by omega)
  unfold spanB
  rw [lenB_tab cs n hb b h]
  by_cases hc : cnt cs b = 0
  · rw [if_pos (by omega), if_pos hc]
  · rw [if_neg (by omega), if_neg hc, aheadB_tab cs n hb b h 0 (by omega) (by omega), wrap_small ((cnt cs b : Int) - 1) (by omega) (by omega), aheadB_tab cs n hb b h _ (by omega) (by omega), wrap_small _ (by omega) (by omega)]
    refine Prod.ext ?_ ?_
    · show 2 * ((S cs b : Int) + 0) = 2 * (S cs b : Int)
      omega
    · show 2 * ((S cs b : Int) + ((cnt cs b : Int) - 1)) + 1 = 2 * (S cs (b + 1) : Int) - 1
      omega
/-- The block of an instruction. -/
theorem find_block (cs : List Nat) (n m : Nat) (h : m < S cs n) : ∃ b, b < n ∧ S cs b ≤ m ∧ m < S cs (b + 1) := by
  induction n with
  | zero => simp [S] at h
  | succ n ih =>
    rcases Nat.lt_or_ge m (S cs n) with h1 | h1
    · obtain ⟨b, hb, h2⟩ := ih h1
      exact ⟨b, by omega, h2⟩
    · exact ⟨n, by omega, h1, h⟩
/-- The search, where what is less than t are just the ones ahead of place p. -/
theorem search (l : List Int) (t p : Int) (hl : l.length ≤ 2000000000) (h0 : 0 ≤ p) (h1 : p < l.length) (hp : ∀ i : Int, 0 ≤ i → i < l.length → (rd l i < t ↔ i < p)) (d : Nat) :
    ∀ (k : Nat) (i j : Int), 0 ≤ i → i ≤ p → p ≤ j → j ≤ l.length → (j - i).toNat ≤ d → d < k → slices_BinarySearch_int_int.l0 k l t (l.length : Int) i j = some (p, decide (rd l p = t)) := by
  induction d with
  | zero =>
    intro k i j a1 a2 a3 a4 a5 a6
    obtain ⟨k, rfl⟩ : ∃ m, k = m + 1 := ⟨k - 1, by omega⟩
    have e : i = p := by omega
    subst e
    rw [slices_BinarySearch_int_int.l0, if_neg (by omega), if_pos h1, if_pos h0, if_pos h1]
    by_cases hq : rd l i = t
    · rw [if_pos hq, decide_eq_true hq]
    · rw [if_neg hq, decide_eq_false hq, slices_isNaN_int.f, Option.bind_some, if_neg (by simp)]
  | succ d ih =>
    intro k i j a1 a2 a3 a4 a5 a6
    obtain ⟨k, rfl⟩ : ∃ m, k = m + 1 := ⟨k - 1, by omega⟩
    by_cases hij : i < j
    · have hm : wrap64 (IntKind.u64.wrap (wrap64 (i + j)) / 2) = (i + j) / 2 := by
        rw [wrap_small (i + j) (by omega) (by omega)]
        have : IntKind.u64.wrap (i + j) = i + j := by
          simp only [IntKind.wrap, IntKind.bits, IntKind.signed]
          simp
          omega
        rw [this, wrap_small _ (by omega) (by omega)]
      rw [slices_BinarySearch_int_int.l0, if_pos hij, hm, if_pos (by omega), if_pos (by omega), cmp_Less_int.f, cmp_isNaN_int.f, Option.bind_some, if_neg (by simp), Option.bind_some]
      have hx := hp ((i + j) / 2) (by omega) (by omega)
      by_cases hc : rd l ((i + j) / 2) < t
      · rw [if_pos (decide_eq_true hc), wrap_small _ (by omega) (by omega)]
        have := hx.mp hc
        exact ih k _ j (by omega) (by omega) a3 a4 (by omega) (by omega)
      · rw [if_neg (by simpa using hc)]
        have := mt hx.mpr hc
        exact ih k i _ a1 a2 (by omega) (by omega) (by omega) (by omega)
    · have e : i = p := by omega
      subst e
      rw [slices_BinarySearch_int_int.l0, if_neg (by omega), if_pos h1, if_pos h0, if_pos h1]
      by_cases hq : rd l i = t
      · rw [if_pos hq, decide_eq_true hq]
      · rw [if_neg hq, decide_eq_false hq, slices_isNaN_int.f, Option.bind_some, if_neg (by simp)]
theorem search_tab (cs : List Nat) (n : Nat) (hn : n ≤ 1048576) (hb : S cs n ≤ 1048576) (b m : Nat) (h : b < n) (h1 : S cs b ≤ m) (h2 : m < S cs (b + 1)) :
    ∃ r2, slices_BinarySearch_int_int.f 2000000 (tabOf cs n) ((m : Int) + 1) = some ((b : Int) + 1, r2) := by
  refine ⟨_, search (tabOf cs n) ((m : Int) + 1) ((b : Int) + 1) (by rw [tabOf_length]; omega) (by omega) (by rw [tabOf_length]; omega) ?_ 1999999 2000000 0 _ (by omega) (by omega) (by rw [tabOf_length]; omega) (by omega) (by rw [tabOf_length]; omega) (by omega)⟩
  intro i h0 h3
  rw [tabOf_length] at h3
  rw [tab_rd cs n hb i h0 (by omega)]
  constructor
  · intro h4
    rcases Int.lt_or_le i ((b : Int) + 1) with h5 | h5
    · exact h5
    · have := S_mono cs (b + 1) i.toNat (by omega)
      omega
  · intro h4
    have := S_mono cs i.toNat b (by omega)
    omega
theorem where_tab (cs : List Nat) (n : Nat) (hn : n ≤ 1048576) (hb : S cs n ≤ 1048576) (b m : Nat) (h : b < n) (h1 : S cs b ≤ m) (h2 : m < S cs (b + 1)) (g : Nat) (w : World) (ht : TableAt w g (tabOf cs n)) :
    Calls Try.prog 15 #[.pointer (some ⟨g, 0, none⟩), .int .i64 m] w (Says (.tuple #[.int .i64 b, .int .i64 ((m : Int) - S cs b)]) w) := by
  obtain ⟨r2, hr⟩ := search_tab cs n hn hb b m h h1 h2
  have h3 := S_mono cs (b + 1) n (by omega)
  have := pt_where g (tabOf cs n) m (by rw [tabOf_length]; omega) (by omega) (by rw [tab_len, tab_rd cs n hb _ (by omega) (by omega)]; rw [show ((n : Int)).toNat = n by omega]; omega) (by omega) 2000000 b r2 hr (by omega) (by rw [tabOf_length]; omega) w ht
  rw [tab_rd cs n hb _ (by omega) (by omega), show ((b : Int)).toNat = b by omega, wrap_small _ (by omega) (by omega)] at this
  exact this
theorem where_none (cs : List Nat) (n : Nat) (hb : S cs n ≤ 1048576) (m : Int) (h : m < 0 ∨ S cs n ≤ m) (g : Nat) (w : World) (ht : TableAt w g (tabOf cs n)) :
    Calls Try.prog 15 #[.pointer (some ⟨g, 0, none⟩), .int .i64 m] w (Says (.tuple #[.int .i64 (-1), .int .i64 (-1)]) w) := by
  refine pt_where_no g (tabOf cs n) m (by rw [tabOf_length]; omega) ?_ w ht
  rw [tab_len, tab_rd cs n hb _ (by omega) (by omega), show ((n : Int)).toNat = n by omega]
  omega
/-- The block of a point. -/
theorem block_tab (cs : List Nat) (n : Nat) (hn : n ≤ 1048576) (hb : S cs n ≤ 1048576) (b m : Nat) (h : b < n) (h1 : S cs b ≤ m) (h2 : m < S cs (b + 1)) (p : Int) (hp : p = 2 * m ∨ p = 2 * m + 1) (g : Nat) (w : World) (ht : TableAt w g (tabOf cs n)) :
    Calls Try.prog 19 #[.pointer (some ⟨g, 0, none⟩), .int .i64 p] w (Says (.int .i64 (if p = 2 * m + 1 ∧ m + 1 = S cs (b + 1) then -1 else (b : Int))) w) := by
  have e : S cs (b + 1) = S cs b + cnt cs b := rfl
  have h3 := S_mono cs (b + 1) n (by omega)
  have hq : p / 2 = (m : Int) := by omega
  have := pt_block g (tabOf cs n) p b ((m : Int) - S cs b) (by rw [tabOf_length]; omega) (by omega) (by omega) (fun w ht => by rw [hq]; exact where_tab cs n hn hb b m h h1 h2 g w ht) w ht
  have ev : blockB (tabOf cs n) p b ((m : Int) - S cs b) = if p = 2 * m + 1 ∧ m + 1 = S cs (b + 1) then -1 else (b : Int) := by
    unfold blockB
    rw [behindB_tab cs n hb b h _ (by omega) (by omega)]
    by_cases hc : p = 2 * m + 1 ∧ m + 1 = S cs (b + 1)
    · rw [if_pos hc, if_pos ⟨by omega, by omega, by rw [if_pos (by omega)]; omega⟩]
    · rw [if_neg hc]
      refine if_neg ?_
      rintro ⟨_, q1, q2⟩
      rw [if_neg (by omega)] at q2
      omega
  rw [ev] at this
  exact this
theorem block_none (cs : List Nat) (n : Nat) (hb : S cs n ≤ 1048576) (p : Int) (h : p < 0 ∨ 2 * (S cs n : Int) ≤ p) (hp : p ≤ 9223372036854775807) (g : Nat) (w : World) (ht : TableAt w g (tabOf cs n)) :
    Calls Try.prog 19 #[.pointer (some ⟨g, 0, none⟩), .int .i64 p] w (Says (.int .i64 (-1)) w) := by
  by_cases h0 : p < 0
  · exact pt_block_neg g _ p h0 w ht
  · have := pt_block g (tabOf cs n) p (-1) (-1) (by rw [tabOf_length]; omega) (by omega) hp (fun w ht => where_none cs n hb (p / 2) (by omega) g w ht) w ht
    rw [show blockB (tabOf cs n) p (-1) (-1) = -1 from if_neg (fun q => absurd q.1 (by decide))] at this
    exact this
end Go.Proofs.Ytafpdjdphdhgkaa.X
