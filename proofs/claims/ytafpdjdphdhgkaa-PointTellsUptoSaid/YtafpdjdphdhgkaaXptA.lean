/- The table of points (package point): what each of its methods answers, walked. -/
import Derived.Test.YtafpdjdphdhgkaaPx2
import Derived.Outline
import Derived.LoopN
import Derived.Handy
namespace Go.Proofs.Ytafpdjdphdhgkaa.X
open Go.RowKit Go.Proofs.Ytafpdjdphdhgkaa.P Go.Proofs.YtafpdjdphdhgkaaW.PrintWords Go.Proofs.YtafpdjdphdhgkaaW.PrintLast Go.Proofs.YtafpdjdphdhgkaaW.PrintMore
set_option linter.unusedVariables false
set_option linter.unusedSimpArgs false

/-- At block g lies a table with these numbers. -/
structure TableAt (W : World) (g : Nat) (l : List Int) : Prop where
  intro ::
  out : ∃ A c, W.heap[g]? = some (.cells #[.slice A l.length c] 51 (0, 0)) ∧ l.length ≤ c ∧ Kd.C (Kd.int .i64) W A l.length l
theorem TableAt.below {W W1 : World} {g : Nat} {l : List Int} (h : TableAt W g l) (hb : Below W.heap.size W W1) : TableAt W1 g l := by
  obtain ⟨A, c, h1, h2, h3⟩ := h.out
  exact ⟨A, c, blk_below h1 hb, h2, Kd.C_below h3 hb⟩
theorem TableAt.drewN {W : World} {g : Nat} {l : List Int} (h : TableAt W g l) (n : Nat) : TableAt (W.drewN n) g l := h.below (pw_below_drewN (Below.refl _ _) n)
theorem TableAt.cell {W : World} {g : Nat} {l : List Int} (h : TableAt W g l) : ∃ A c, W.cell? ⟨g, 0, none⟩ = some (.slice A l.length c) ∧ l.length ≤ c ∧ Kd.C (Kd.int .i64) W A l.length l := by
  obtain ⟨A, c, h1, h2, h3⟩ := h.out
  exact ⟨A, c, blk_cell h1 0, h2, h3⟩
theorem int_at {w : World} {A : Option Addr} {n : Nat} {l : List Int} (h : Kd.C (Kd.int .i64) w A n l) (i : Int) (h0 : 0 ≤ i) (h1 : i < n) : ∃ ad, A = some ad ∧ w.cell? (ad.add i.toNat) = some (.int .i64 (rd l i)) := by
  obtain ⟨ad, c, e, _, hK, hc⟩ := Kd.C_get h 0 i h0 h1
  refine ⟨ad, e, ?_⟩
  have hK' : c = [.int .i64 (rd l i)] := hK
  have h := hc 0 (.int .i64 (rd l i)) (by rw [hK']; rfl)
  rwa [show (Kd.int .i64).sz = 1 from rfl, Nat.mul_one, Nat.add_zero] at h
/-- An answer; the world is the old one, some orders having been drawn. -/
def Says (v : Value) (w : World) (e : Ending) (w' : World) : Prop := e = .returned v ∧ ∃ n, w' = w.drewN n

theorem pt_blocks (g : Nat) (l : List Int) (hl : 1 ≤ l.length) (w : World) (h : TableAt w g l) : Calls Try.prog 10 #[.pointer (some ⟨g, 0, none⟩)] w (Says (.int .i64 ((l.length : Int) - 1)) w) := by
  obtain ⟨A, c, hc, h2, h3⟩ := h.cell
  have hm : l.length ≤ 9223372036854775807 := Kd.C_max h3
  have f1 : ((l.length : Int) == 0) = false := beq_eq_false_iff_ne.mpr (by omega)
  have f2 : l.isEmpty = false := by cases l <;> simp at hl ⊢
  have H3 := Aside0.mk h3
  clear h3 h
  go_enter Try.func10, Try.ntmps10
  go_wp2
  go_ret
  exact ⟨rfl, 0, rfl⟩
theorem pt_count (g : Nat) (l : List Int) (hl : 1 ≤ l.length) (w : World) (h : TableAt w g l) : Calls Try.prog 8 #[.pointer (some ⟨g, 0, none⟩)] w (Says (.int .i64 (rd l ((l.length : Int) - 1))) w) := by
  obtain ⟨A, c, hc, h2, h3⟩ := h.cell
  have hm : l.length ≤ 9223372036854775807 := Kd.C_max h3
  have H := Aside0.mk h
  have H3 := Aside0.mk h3
  have nth : point_nth_int.f l ((l.length : Int) - 1) 0 = some (rd l ((l.length : Int) - 1)) := by
    unfold point_nth_int.f
    rw [if_neg (by omega), if_neg (by omega), if_pos (by omega), if_pos (by omega)]
  have N := Aside0.mk nth
  clear h3 h nth
  go_enter Try.func8, Try.ntmps8
  go_wp2_with (fail)
  go_quiet (first | (go_at_call 10; exact Calls.quiet_of (pt_blocks g l hl _ (H.out.drewN _))) | (go_at_call 21; exact Calls.quiet_of ((point_nth_int.calls A c l _ _ _ _ (Kd.C_below H3.out (pw_below_drewN (Below.refl _ _) _)) h2 N.out).mono fun _ _ z => ⟨z.1, z.2.out⟩)))
  go_wp2
  go_ret
  exact ⟨rfl, _, rfl⟩
theorem pt_len (g : Nat) (l : List Int) (b : Int) (hl : 1 ≤ l.length) (h0 : 0 ≤ b) (h1 : b < (l.length : Int) - 1) (w : World) (h : TableAt w g l) : Calls Try.prog 13 #[.pointer (some ⟨g, 0, none⟩), .int .i64 b] w (Says (.int .i64 (wrap64 (rd l (b + 1) - rd l b))) w) := by
  obtain ⟨A, c, hc, h2, h3⟩ := h.cell
  have hm : l.length ≤ 9223372036854775807 := Kd.C_max h3
  obtain ⟨ad, rfl, q1⟩ := int_at h3 b h0 (by omega)
  obtain ⟨ad', e, q2⟩ := int_at h3 (b + 1) (by omega) (by omega)
  cases e
  have H := Aside0.mk h
  have f1 : b + 1 < (l.length : Int) := by omega
  have f2 : 0 ≤ b + 1 := by omega
  have f3 : b < (l.length : Int) := by omega
  have f4 : b + 1 ≤ 9223372036854775807 := by omega
  clear h3 h
  go_enter Try.func13, Try.ntmps13
  go_wp2_with (go_at_call 10; refine (pt_blocks g l hl _ H.out).mono ?_; rintro e w' ⟨rfl, n, rfl⟩)
  go_quiet (fail)
  go_wp2
  go_ret
  exact ⟨rfl, _, World.drewN_drewN ..⟩
theorem pt_len_no (g : Nat) (l : List Int) (b : Int) (hl : 1 ≤ l.length) (h0 : b < 0 ∨ (l.length : Int) - 1 ≤ b) (w : World) (h : TableAt w g l) : Calls Try.prog 13 #[.pointer (some ⟨g, 0, none⟩), .int .i64 b] w (Says (.int .i64 0) w) := by
  have H := Aside0.mk h
  clear h
  rcases h0 with h0 | h0
  · have f1 : b < 0 := h0
    go_enter Try.func13, Try.ntmps13
    go_wp2
    go_ret
    exact ⟨rfl, 0, rfl⟩
  · have f1 : 0 ≤ b := by omega
    go_enter Try.func13, Try.ntmps13
    go_wp2_with (go_at_call 10; refine (pt_blocks g l hl _ H.out).mono ?_; rintro e w' ⟨rfl, n, rfl⟩)
    go_ret
    exact ⟨rfl, _, rfl⟩
/-- How many instructions a block has, by the table. -/
def lenB (l : List Int) (b : Int) : Int := if 0 ≤ b ∧ b < (l.length : Int) - 1 then wrap64 (rd l (b + 1) - rd l b) else 0
theorem lenB_range {l : List Int} {b i : Int} (h0 : 0 ≤ i) (h : i < lenB l b) : 0 ≤ b ∧ b < (l.length : Int) - 1 := by
  unfold lenB at h
  split at h
  · assumption
  · omega
theorem wrap64_le (x : Int) : -9223372036854775808 ≤ wrap64 x ∧ wrap64 x ≤ 9223372036854775807 := by unfold wrap64; omega
theorem lenB_le (l : List Int) (b : Int) : -9223372036854775808 ≤ lenB l b ∧ lenB l b ≤ 9223372036854775807 := by
  unfold lenB
  split
  · exact wrap64_le _
  · omega

theorem pt_lenx (g : Nat) (l : List Int) (b : Int) (hl : 1 ≤ l.length) (w : World) (h : TableAt w g l) : Calls Try.prog 13 #[.pointer (some ⟨g, 0, none⟩), .int .i64 b] w (Says (.int .i64 (lenB l b)) w) := by
  by_cases hb : 0 ≤ b ∧ b < (l.length : Int) - 1
  · have e : lenB l b = wrap64 (rd l (b + 1) - rd l b) := if_pos hb
    rw [e]
    exact pt_len g l b hl hb.1 hb.2 w h
  · have e : lenB l b = 0 := if_neg hb
    rw [e]
    exact pt_len_no g l b hl (by omega) w h
/-- The number of an instruction of a block, by the table. -/
def ofB (l : List Int) (b i : Int) : Int := if 0 ≤ i ∧ i < lenB l b then wrap64 (rd l b + i) else -1
theorem ofB_le (l : List Int) (b i : Int) : -9223372036854775808 ≤ ofB l b i ∧ ofB l b i ≤ 9223372036854775807 := by
  unfold ofB
  split
  · exact wrap64_le _
  · omega

theorem pt_of (g : Nat) (l : List Int) (b : Int) (i : Int) (hl : 1 ≤ l.length) (w : World) (h : TableAt w g l) : Calls Try.prog 14 #[.pointer (some ⟨g, 0, none⟩), .int .i64 b, .int .i64 i] w (Says (.int .i64 (ofB l b i)) w) := by
  have H := Aside0.mk h
  by_cases hi : 0 ≤ i ∧ i < lenB l b
  · have e : ofB l b i = wrap64 (rd l b + i) := if_pos hi
    rw [e]
    clear e
    obtain ⟨hb0, hb1⟩ := lenB_range hi.1 hi.2
    obtain ⟨A, c, hc, h2, h3⟩ := h.cell
    have hm : l.length ≤ 9223372036854775807 := Kd.C_max h3
    obtain ⟨ad, rfl, q1⟩ := int_at h3 b hb0 (by omega)
    have f3 : b < (l.length : Int) := by omega
    obtain ⟨g0, g1⟩ := hi
    have LL := pt_lenx g l b hl
    revert g1 LL
    generalize lenB l b = L
    intro g1 LL
    have LA := Aside0.mk LL
    clear h3 h LL hb1
    go_enter Try.func14, Try.ntmps14
    go_wp2_with (go_at_call 13; refine (LA.out _ H.out).mono ?_; rintro e w' ⟨rfl, n, rfl⟩)
    (try go_quiet (fail))
    go_wp2
    go_ret
    exact ⟨rfl, _, by first | rfl | exact World.drewN_drewN ..⟩
  · have e : ofB l b i = -1 := if_neg hi
    rw [e]
    clear e
    have LL := pt_lenx g l b hl
    revert hi LL
    generalize lenB l b = L
    intro hi LL
    have LA := Aside0.mk LL
    clear h LL
    by_cases h0 : i < 0
    · clear hi
      go_enter Try.func14, Try.ntmps14
      go_wp2
      go_ret
      exact ⟨rfl, 0, rfl⟩
    · have f0 : 0 ≤ i := by omega
      have f1 : L ≤ i := by omega
      clear hi h0
      go_enter Try.func14, Try.ntmps14
      go_wp2_with (go_at_call 13; refine (LA.out _ H.out).mono ?_; rintro e w' ⟨rfl, n, rfl⟩)
      go_ret
      exact ⟨rfl, _, rfl⟩
def aheadB (l : List Int) (b i : Int) : Int := if ofB l b i < 0 then -1 else wrap64 (2 * ofB l b i)
theorem aheadB_le (l : List Int) (b i : Int) : -9223372036854775808 ≤ aheadB l b i ∧ aheadB l b i ≤ 9223372036854775807 := by
  unfold aheadB
  split
  · omega
  · exact wrap64_le _

theorem pt_ahead (g : Nat) (l : List Int) (b : Int) (i : Int) (hl : 1 ≤ l.length) (w : World) (h : TableAt w g l) : Calls Try.prog 16 #[.pointer (some ⟨g, 0, none⟩), .int .i64 b, .int .i64 i] w (Says (.int .i64 (aheadB l b i)) w) := by
  have H := Aside0.mk h
  unfold aheadB
  have bd := ofB_le l b i
  have LL := pt_of g l b i hl
  revert LL bd
  generalize ofB l b i = L
  intro bd LL
  have LA := Aside0.mk LL
  clear h LL
  by_cases h0 : L < 0
  · rw [if_pos h0]
    go_enter Try.func16, Try.ntmps16
    go_wp2_with (go_at_call 14; refine (LA.out _ H.out).mono ?_; rintro e w' ⟨rfl, n, rfl⟩)
    go_ret
    exact ⟨rfl, _, rfl⟩
  · rw [if_neg h0]
    go_enter Try.func16, Try.ntmps16
    go_wp2_with (go_at_call 14; refine (LA.out _ H.out).mono ?_; rintro e w' ⟨rfl, n, rfl⟩)
    go_ret
    exact ⟨rfl, _, rfl⟩
def behindB (l : List Int) (b i : Int) : Int := if i = wrap64 (lenB l b - 1) then -1 else if ofB l b i < 0 then -1 else wrap64 (wrap64 (2 * ofB l b i) + 1)

theorem pt_behind (g : Nat) (l : List Int) (b : Int) (i : Int) (hl : 1 ≤ l.length) (w : World) (h : TableAt w g l) : Calls Try.prog 17 #[.pointer (some ⟨g, 0, none⟩), .int .i64 b, .int .i64 i] w (Says (.int .i64 (behindB l b i)) w) := by
  have H := Aside0.mk h
  unfold behindB
  have bd := ofB_le l b i
  have LL := pt_of g l b i hl
  have MM := pt_lenx g l b hl
  revert LL bd MM
  generalize ofB l b i = L
  generalize lenB l b = M
  intro bd LL MM
  have LA := Aside0.mk LL
  have MA := Aside0.mk MM
  clear h LL MM
  by_cases h1 : i = wrap64 (M - 1)
  · rw [if_pos h1]
    have f1 : (i == wrap64 (M - 1)) = true := by simp [← h1]
    clear h1
    go_enter Try.func17, Try.ntmps17
    go_wp2_with (go_at_call 13; refine (MA.out _ H.out).mono ?_; rintro e w' ⟨rfl, n, rfl⟩)
    go_ret
    exact ⟨rfl, _, rfl⟩
  · rw [if_neg h1]
    have f1 : (i == wrap64 (M - 1)) = false := by simp [h1]
    clear h1
    by_cases h0 : L < 0
    · rw [if_pos h0]
      go_enter Try.func17, Try.ntmps17
      go_wp2_with (first | (go_at_call 13; refine (MA.out _ H.out).mono ?_; rintro e w' ⟨rfl, n, rfl⟩) | (go_at_call 14; refine (LA.out _ (H.out.drewN _)).mono ?_; rintro e w' ⟨rfl, n2, rfl⟩))
      go_ret
      exact ⟨rfl, _, rfl⟩
    · rw [if_neg h0]
      go_enter Try.func17, Try.ntmps17
      go_wp2_with (first | (go_at_call 13; refine (MA.out _ H.out).mono ?_; rintro e w' ⟨rfl, n, rfl⟩) | (go_at_call 14; refine (LA.out _ (H.out.drewN _)).mono ?_; rintro e w' ⟨rfl, n2, rfl⟩))
      go_ret
      exact ⟨rfl, _, rfl⟩
def spanB (l : List Int) (b : Int) : Int × Int := if lenB l b = 0 then (0, 0) else (aheadB l b 0, wrap64 (aheadB l b (wrap64 (lenB l b - 1)) + 1))

theorem pt_span (g : Nat) (l : List Int) (b : Int) (hl : 1 ≤ l.length) (w : World) (h : TableAt w g l) : Calls Try.prog 11 #[.pointer (some ⟨g, 0, none⟩), .int .i64 b] w (Says (.tuple #[.int .i64 (spanB l b).1, .int .i64 (spanB l b).2]) w) := by
  have H := Aside0.mk h
  unfold spanB
  have MM := pt_lenx g l b hl
  revert MM
  have AA := fun i => pt_ahead g l b i hl
  revert AA
  generalize lenB l b = M
  generalize hN : aheadB l b (wrap64 (M - 1)) = N
  generalize hK : aheadB l b 0 = K
  intro AA MM
  have A1 := AA 0
  have A2 := AA (wrap64 (M - 1))
  rw [hK] at A1
  rw [hN] at A2
  clear hN hK AA
  have LA := Aside0.mk A1
  have LB := Aside0.mk A2
  have MA := Aside0.mk MM
  clear h A1 A2 MM
  by_cases h1 : M = 0
  · rw [if_pos h1]
    have f1 : (M == 0) = true := by simp [h1]
    clear h1
    go_enter Try.func11, Try.ntmps11
    go_wp2_with (go_at_call 13; refine (MA.out _ H.out).mono ?_; rintro e w' ⟨rfl, n, rfl⟩)
    go_ret2
    exact ⟨rfl, _, rfl⟩
  · rw [if_neg h1]
    have f1 : (M == 0) = false := by simp [h1]
    clear h1
    go_enter Try.func11, Try.ntmps11
    go_wp2_with (first | (go_at_call 13; refine (MA.out _ H.out).mono ?_; rintro e w' ⟨rfl, n, rfl⟩) | (go_at_call 16; ((with_reducible refine (LA.out _ (H.out.drewN _)).mono ?_); rintro e w' ⟨rfl, n2, rfl⟩)) | (go_at_call 16; ((with_reducible refine (LB.out _ (H.out.drewN _)).mono ?_); rintro e w' ⟨rfl, n3, rfl⟩)))
    go_ret2
    exact ⟨rfl, _, rfl⟩
/-- What a binary search answers, turned into the block. -/
theorem pt_where_no (g : Nat) (l : List Int) (n : Int) (hl : 1 ≤ l.length) (hn : n < 0 ∨ rd l ((l.length : Int) - 1) ≤ n) (w : World) (h : TableAt w g l) : Calls Try.prog 15 #[.pointer (some ⟨g, 0, none⟩), .int .i64 n] w (Says (.tuple #[.int .i64 (-1), .int .i64 (-1)]) w) := by
  have H := Aside0.mk h
  have CC := pt_count g l hl
  revert CC hn
  generalize rd l ((l.length : Int) - 1) = M
  intro hn CC
  have MA := Aside0.mk CC
  clear h CC
  by_cases h0 : n < 0
  · clear hn
    go_enter Try.func15, Try.ntmps15
    go_wp2
    go_ret2
    exact ⟨rfl, 0, rfl⟩
  · have f0 : 0 ≤ n := by omega
    have f1 : M ≤ n := by omega
    clear hn h0
    go_enter Try.func15, Try.ntmps15
    go_wp2_with (go_at_call 8; refine (MA.out _ H.out).mono ?_; rintro e w' ⟨rfl, n, rfl⟩)
    go_ret2
    exact ⟨rfl, _, rfl⟩
theorem pt_where (g : Nat) (l : List Int) (n : Int) (hl : 1 ≤ l.length) (h0 : 0 ≤ n) (h1 : n < rd l ((l.length : Int) - 1)) (h1' : n < 9223372036854775807) (k : Nat) (b : Int) (r2 : Bool) (hs : slices_BinarySearch_int_int.f k l (n + 1) = some (b + 1, r2)) (hr : 0 ≤ b) (hr2 : b < (l.length : Int)) (w : World) (h : TableAt w g l) : Calls Try.prog 15 #[.pointer (some ⟨g, 0, none⟩), .int .i64 n] w (Says (.tuple #[.int .i64 b, .int .i64 (wrap64 (n - rd l b))]) w) := by
  have H := Aside0.mk h
  have CC := pt_count g l hl
  obtain ⟨A, c, hc, h2, h3⟩ := h.cell
  have hm : l.length ≤ 9223372036854775807 := Kd.C_max h3
  obtain ⟨ad, rfl, q1⟩ := int_at h3 b (by omega) (by omega)
  have H3 := Aside0.mk h3
  have S := Aside0.mk hs
  have f5 : b + 1 ≤ 9223372036854775807 := by omega
  revert CC h1
  generalize rd l ((l.length : Int) - 1) = M
  intro h1 CC
  have MA := Aside0.mk CC
  clear h h3 CC hs
  cases r2
  all_goals
    go_enter Try.func15, Try.ntmps15
    go_wp2_with (first | (go_at_call 8; refine (MA.out _ H.out).mono ?_; rintro e w' ⟨rfl, m, rfl⟩) | (go_at_call 22; refine (slices_BinarySearch_int_int.calls k (some ad) c l _ _ _ _ (Kd.C_below H3.out (pw_below_drewN (Below.refl _ _) _)) h2 S.out).mono ?_; rintro e w' ⟨rfl, ⟨m2, rfl⟩⟩))
    (try go_quiet (fail))

    go_wp2
    go_ret2
    exact ⟨rfl, _, by first | rfl | exact World.drewN_drewN ..⟩
/-- The block of a point, where the table's search says block b, instruction i. -/
def blockB (l : List Int) (p b i : Int) : Int := if b ≥ 0 ∧ p % 2 = 1 ∧ behindB l b i < 0 then -1 else b
theorem pt_block_neg (g : Nat) (l : List Int) (p : Int) (hp : p < 0) (w : World) (h : TableAt w g l) : Calls Try.prog 19 #[.pointer (some ⟨g, 0, none⟩), .int .i64 p] w (Says (.int .i64 (-1)) w) := by
  go_enter Try.func19, Try.ntmps19
  go_wp2
  go_ret
  exact ⟨rfl, 0, rfl⟩
theorem pt_block (g : Nat) (l : List Int) (p b i : Int) (hl : 1 ≤ l.length) (hp : 0 ≤ p) (hpm : p ≤ 9223372036854775807) (hw : ∀ w, TableAt w g l → Calls Try.prog 15 #[.pointer (some ⟨g, 0, none⟩), .int .i64 (p / 2)] w (Says (.tuple #[.int .i64 b, .int .i64 i]) w)) (w : World) (h : TableAt w g l) : Calls Try.prog 19 #[.pointer (some ⟨g, 0, none⟩), .int .i64 p] w (Says (.int .i64 (blockB l p b i)) w) := by
  have H := Aside0.mk h
  have BB := pt_behind g l b i hl
  unfold blockB
  revert BB
  generalize behindB l b i = B
  intro BB
  have WA := Aside0.mk hw
  have BA := Aside0.mk BB
  clear h hw BB
  by_cases h1 : b ≥ 0
  · by_cases h2 : p % 2 = 1
    · have f2 : (p % 2 == 1) = true := by simp [h2]
      by_cases h3 : B < 0
      · rw [if_pos ⟨h1, h2, h3⟩]
        clear h2
        go_enter Try.func19, Try.ntmps19
        go_wp2_with (first | (go_at_call 15; refine (WA.out _ H.out).mono ?_; rintro e w' ⟨rfl, m, rfl⟩) | (go_at_call 17; refine (BA.out _ (H.out.drewN _)).mono ?_; rintro e w' ⟨rfl, m2, rfl⟩))
        go_ret
        exact ⟨rfl, _, rfl⟩
      · rw [if_neg (fun q => h3 q.2.2)]
        clear h2
        go_enter Try.func19, Try.ntmps19
        go_wp2_with (first | (go_at_call 15; refine (WA.out _ H.out).mono ?_; rintro e w' ⟨rfl, m, rfl⟩) | (go_at_call 17; refine (BA.out _ (H.out.drewN _)).mono ?_; rintro e w' ⟨rfl, m2, rfl⟩))
        go_ret
        exact ⟨rfl, _, rfl⟩
    · rw [if_neg (fun q => h2 q.2.1)]
      have f2 : (p % 2 == 1) = false := by simp [h2]
      clear h2
      go_enter Try.func19, Try.ntmps19
      go_wp2_with (go_at_call 15; refine (WA.out _ H.out).mono ?_; rintro e w' ⟨rfl, m, rfl⟩)
      go_ret
      exact ⟨rfl, _, rfl⟩
  · rw [if_neg (fun q => h1 q.1)]
    go_enter Try.func19, Try.ntmps19
    go_wp2_with (go_at_call 15; refine (WA.out _ H.out).mono ?_; rintro e w' ⟨rfl, m, rfl⟩)
    go_ret
    exact ⟨rfl, _, rfl⟩
end Go.Proofs.Ytafpdjdphdhgkaa.X
