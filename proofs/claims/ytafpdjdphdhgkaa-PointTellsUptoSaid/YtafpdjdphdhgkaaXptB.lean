/- The table of points (package point): what New makes of a function, walked. -/
import Derived.Test.YtafpdjdphdhgkaaXptA
namespace Go.Proofs.Ytafpdjdphdhgkaa.X
open Go.RowKit Go.Proofs.Ytafpdjdphdhgkaa.P Go.Proofs.YtafpdjdphdhgkaaW.PrintWords Go.Proofs.YtafpdjdphdhgkaaW.PrintLast Go.Proofs.YtafpdjdphdhgkaaW.PrintMore
set_option linter.unusedVariables false
set_option linter.unusedSimpArgs false

/-- How many instructions block j has. -/
def cnt (cs : List Nat) (j : Nat) : Nat := cs.getD j 0
/-- How many instructions the first j blocks have, as the code counts; cs: how many each has. -/
def upTo (cs : List Nat) : Nat → Int
  | 0 => 0
  | j + 1 => wrap64 (upTo cs j + (cnt cs j : Int))
/-- The table's numbers behind j blocks. -/
def tabOf (cs : List Nat) : Nat → List Int
  | 0 => [0]
  | j + 1 => tabOf cs j ++ [upTo cs (j + 1)]
theorem tabOf_length (cs : List Nat) (j : Nat) : (tabOf cs j).length = j + 1 := by
  induction j with
  | zero => rfl
  | succ j ih => rw [tabOf, List.length_append, ih, List.length_singleton]
/-- Blocks lie there, with so many instructions each. -/
def BlocksAt (W : World) (A : Option Addr) (cs : List Nat) : Prop := ∀ j, j < cs.length → ∃ ad s b A2 n2 c2 A3 c3, A = some ad ∧ W.cell? (ad.add (j * 4)) = some (.string s) ∧ W.cell? ⟨(ad.add (j * 4)).block, (ad.add (j * 4)).off + 1, none⟩ = some (.bool b) ∧ W.cell? ⟨(ad.add (j * 4)).block, (ad.add (j * 4)).off + 2, none⟩ = some (.slice A2 n2 c2) ∧ W.cell? ⟨(ad.add (j * 4)).block, (ad.add (j * 4)).off + 3, none⟩ = some (.slice A3 (cnt cs j) c3)
theorem BlocksAt.below {W W1 : World} {A : Option Addr} {cs : List Nat} (h : BlocksAt W A cs) (hb : Below W.heap.size W W1) : BlocksAt W1 A cs := by
  intro j hj
  obtain ⟨ad, s, b, A2, n2, c2, A3, c3, e, x0, x1, x2, x3⟩ := h j hj
  exact ⟨ad, s, b, A2, n2, c2, A3, c3, e, pw_cell_below hb x0, pw_cell_below hb x1, pw_cell_below hb x2, pw_cell_below hb x3⟩
def codes (l : List S35) : List Nat := l.map fun b => b.f3.length
theorem codes_at (l : List S35) (j : Nat) (h : j < l.length) : cnt (codes l) j = (rd_T35 l (j : Int)).f3.length := by
  simp [cnt, codes, rd_T35, List.getD_eq_getElem?_getD, List.getElem?_eq_getElem h]
theorem BlocksAt.of_C {W : World} {A : Option Addr} {l : List S35} (h : Kd.C k35 W A l.length l) : BlocksAt W A (codes l) := by
  intro j hj
  have hj' : j < l.length := by simpa [codes] using hj
  obtain ⟨ad, A2, c2, A3, c3, e, x0, x1, x2, x3, _⟩ := at_T35 h (j : Int) (by omega) (by omega)
  simp only [Int.toNat_natCast] at x0 x1 x2 x3
  exact ⟨ad, _, _, A2, _, c2, A3, c3, e, x0, x1, x2, by rw [codes_at l j hj']; exact x3⟩
theorem info_int : (Try.prog.info? 3).map (fun i => (i.zero, i.size, i.bytes)) = some (some (.int .i64 0), 1, 8) := by kernel_rfl
theorem R_one (W : World) (base : Nat) (ok : Nat → Prop) (x : Int) (hb : base ≤ W.heap.size) (hok : ok W.heap.size) : Kd.R (Kd.int .i64) 3 (W.alloc (.cells #[.int .i64 x] 3)) base ok (.slice (some ⟨W.heap.size, 0, none⟩) 1 1) [x] := by
  refine ⟨fun k hk => ?_, [.int .i64 x], ?_, ?_⟩
  · have : W.heap.size = k := by simpa [Value.ownBlock] using hk
    subst this
    exact hok
  · exact own_lit W base 3 .i64 [x] hb (by simp)
  · refine ⟨rfl, fun j p hj => ?_⟩
    cases j with
    | zero => cases hj; rfl
    | succ j => simp at hj
def NewPost (l : List Nat) (w : World) (e : Ending) (w' : World) : Prop := ∃ g, e = .returned (.pointer (some ⟨g, 0, none⟩)) ∧ TableAt w' g (tabOf l l.length) ∧ Below w.heap.size w w'

set_option maxHeartbeats 2000000 in
set_option maxRecDepth 100000 in
theorem pt_new (m : Bool) (nm : ByteArray) (A2 A3 A4 : Option Addr) (n2 c2 n3 c3 c4 : Nat) (l : List Nat) (w : World) (hr : BlocksAt w A4 l) (hc : l.length ≤ c4) (hsmall : l.length ≤ 1048576) :
    Calls Try.prog 7 #[.agg #[.bool m, .string nm, .slice A2 n2 c2, .slice A3 n3 c3, .slice A4 l.length c4]] w (NewPost l w) := by
  have hu1 := Try.underlying26
  have hu2 := Try.underlying51
  have hu3 := Try.underlying35
  have HR := Aside0.mk hr
  have HC := Aside0.mk hc
  clear hr hc
  go_enter Try.func7, Try.ntmps7
  go_wp2
  go_loopg [4, 6, 13] (l.length + 1) (fun kq v4 v6 v13 W => ∃ (j : Nat) (v : Value), v4 = .int .i64 (upTo l j) ∧ v13 = .int .i64 (j : Int) ∧ Aside0 (kq + j = l.length + 1) ∧ Aside0 (j ≤ l.length) ∧ Aside0 (Kd.R (Kd.int .i64) 3 W w.heap.size (fun k => k ≠ w.heap.size + 1 + 1) v (tabOf l j)) ∧ Aside0 (W.heap[w.heap.size + 1 + 1]? = some (.cells #[v] 51 (0, 0))) ∧ Aside0 (Below w.heap.size w W))
  case atStart =>
    refine ⟨0, .slice (some ⟨w.heap.size + 1, 0, none⟩) 1 1, rfl, rfl, ⟨rfl⟩, ⟨Nat.zero_le _⟩, ⟨?_⟩, ⟨?_⟩, ⟨?_⟩⟩
    rotate_left
    · have h := heap_alloc_new ((w.alloc (.cells #[.bool m, .string nm, .slice A2 n2 c2, .slice A3 n3 c3, .slice A4 l.length c4] 26)).alloc (.cells #[.int .i64 0] 3)) (.cells #[.slice (some ⟨w.heap.size + 1, 0, none⟩) 1 1] 51)
      rw [World.size_alloc, World.size_alloc] at h
      exact h
    · exact ((Below.refl _ _).alloc (Nat.le_refl _) _).alloc (by simp) _ |>.alloc (by simp; omega) _
    · have h := Kd.R_alloc (R_one (w.alloc (.cells #[.bool m, .string nm, .slice A2 n2 c2, .slice A3 n3 c3, .slice A4 l.length c4] 26)) w.heap.size (fun k => k ≠ w.heap.size + 1 + 1) 0 (by simp) (by simp)) (.cells #[.slice (some ⟨w.heap.size + 1, 0, none⟩) 1 1] 51)
      rw [World.size_alloc] at h
      exact h
  case round =>
    obtain ⟨j, v, rfl, rfl, HJ, HL, HV, HT, HB⟩ := hrel
    have hjl := HL.out
    by_cases hlt : j < l.length
    · obtain ⟨ad, s', b', A2', n2', c2', A3', c3', e, x0, x1, x2, x3⟩ := HR.out j hlt
      subst e
      replace x0 := (HB.out.cell (World.block_lt_of_cell? w _ x0)).trans x0
      replace x1 := (HB.out.cell (World.block_lt_of_cell? w _ x1)).trans x1
      replace x2 := (HB.out.cell (World.block_lt_of_cell? w _ x2)).trans x2
      replace x3 := (HB.out.cell (World.block_lt_of_cell? w _ x3)).trans x3
      have z0 : ∀ o, (wr.alloc o).cell? ⟨w.heap.size + 1 + 1, 0, none⟩ = some v := fun o => blk_cell (blk_alloc HT.out o) 0
      have hg : w.heap.size + 1 + 1 < wr.heap.size := blk_lt HT.out
      have hlen := tabOf_length l j
      have HLEN := Aside0.mk hlen
      clear hlen
      go_wp2_with (at_builtin; refine Kd.R_append (Kd.int .i64) (w0 := w) w.heap.size rfl (.tmp 26) (.tmp 28) 47 3 (.int .i64 0) 8 rfl Try.underlying47 info_int rfl (by decide) (by omega) v (tabOf l j) (upTo l (j + 1)) [.int .i64 (upTo l (j + 1))] (fun k => k ≠ w.heap.size + 1 + 1) (fun _ => False) rfl (by rw [World.size_alloc]; rfl) rfl (fun _ hk => hk.elim) ?aF ?aO ?aB ?aS ?aL ?_; (case aF => intro k hk e; rw [e] at hk; simp at hk; omega); (case aO => exact Kd.R_alloc HV.out _); (case aB => exact below_alloc HB.out _); (case aS => have h_ := HB.out.size; simp; omega); (case aL => have h_ := HLEN.out; omega); intro v1 w2 hown hb2 hg2 hat2; obtain ⟨A5, c5, e5⟩ := Kd.R_slice hown; subst e5; have HV2 := Aside0.mk hown; have HB2 := Aside0.mk hb2; have hv_ : some (w.heap.size + 1 + 1) ≠ v.ownBlock := (fun e => HV.out.1 _ e.symm rfl); have HT2 := Aside0.mk (blk_grown (blk_alloc HT.out _) hg2 hv_); clear hv_ hg2 hat2 hown hb2; have z1 := blk_cell HT2.out 0; have z2 := blk_frozen HT2.out 0)
      go_roundg (gk - 1)
      case measure => have := HJ.out; omega
      case rel =>
        refine ⟨j + 1, .slice A5 ((tabOf l j).length + 1) c5, rfl, by go_num, ⟨by have := HJ.out; omega⟩, ⟨by omega⟩, ⟨?_⟩, ⟨?_⟩, ⟨?_⟩⟩
        · have h := HV2.out
          rw [List.length_append, List.length_singleton] at h
          exact Kd.R_far (p := ⟨w.heap.size + 1 + 1, 0, none⟩) h (fun k hk => hk) _
        · have h := blk_set HT2.out 0 (.slice A5 ((tabOf l j).length + 1) c5)
          simpa using h
        · exact HB2.out.setCell (p := ⟨w.heap.size + 1 + 1, 0, none⟩) (show w.heap.size ≤ w.heap.size + 1 + 1 by omega) _
    · have hj : j = l.length := by omega
      have HJ2 := Aside0.mk hj
      clear hj
      go_wp2
      go_ret
      obtain ⟨A5, c5, e5, h1, h2⟩ := Kd.R_reads HV.out
      refine ⟨w.heap.size + 1 + 1, rfl, ⟨A5, c5, ?_, ?_, ?_⟩, HB.out⟩
      · rw [← HJ2.out, ← e5]
        exact HT.out
      · rw [← HJ2.out]
        exact h1
      · rw [← HJ2.out]
        exact h2
end Go.Proofs.Ytafpdjdphdhgkaa.X
