/- The functions of package op that look into the table, walked: what each answers, of the table's row. -/
import Derived.Test.YtnlemjfkgbgogaaXop
import Derived.LoopN
import Derived.Handy
import Derived.Outline
namespace Go.Proofs.Ytnlemjfkgbgogaa.X
open Go.RowKit
theorem find_at (op : Int) (nm : ByteArray) (d a0 a1 lb : Int) (mc ok : Bool) (hr : Hid (rowOf op = ⟨nm, d, a0, a1, lb, mc⟩)) (ho : Hid (isOp op = ok)) (w : World) :
    Calls Try.prog 22 #[.int .i64 op] w fun e w' => e = .returned (.tuple #[.agg #[.string nm, .int .i64 d, .int .i64 a0, .int .i64 a1, .int .i64 lb, .bool mc], .bool ok]) ∧ Below w.heap.size w w' :=
  (find_any op w).mono fun e w' h => by
    obtain ⟨h1, h2⟩ := h
    exact ⟨by rw [h1, hr, ho]; rfl, h2⟩
theorem row_parts (op : Int) : ∃ nm d a0 a1 lb mc, Hid (rowOf op = ⟨nm, d, a0, a1, lb, mc⟩) := ⟨_, _, _, _, _, _, rfl⟩
theorem ok_part (op : Int) : ∃ ok, Hid (isOp op = ok) := ⟨_, rfl⟩

theorem bstep {w w' : World} (hb : Below w.heap.size w w') (o : Obj) : Below w.heap.size w (w'.alloc o) := hb.alloc hb.size o
theorem bdrew {w w' : World} (hb : Below w.heap.size w w') (n : Nat) : Below w.heap.size w (w'.drewN n) := ⟨hb.os, hb.tape, hb.output, hb.size, hb.block⟩
theorem op_is (op : Int) (w : World) : Calls Try.prog 10 #[.int .i64 op] w fun e w' => e = .returned (.bool (isOp op)) ∧ Below w.heap.size w w' := by
  obtain ⟨nm, d, a0, a1, lb, mc, hr⟩ := row_parts op
  obtain ⟨ok, ho⟩ := ok_part op
  go_enter Try.func10, Try.ntmps10
  go_wp2_with (go_at_call 22; refine (find_at _ _ _ _ _ _ _ _ hr ho _).mono ?_; rintro e w' ⟨rfl, hb⟩)
  go_ret
  exact ⟨(show (Ending.returned (.bool ok)) = _ by rw [show isOp op = ok from ho]), bstep hb _⟩
theorem op_name (op : Int) (w : World) : Calls Try.prog 11 #[.int .i64 op] w fun e w' => e = .returned (.string (rowOf op).nm) ∧ Below w.heap.size w w' := by
  obtain ⟨nm, d, a0, a1, lb, mc, hr⟩ := row_parts op
  obtain ⟨ok, ho⟩ := ok_part op
  go_enter Try.func11, Try.ntmps11
  go_wp2_with (go_at_call 22; refine (find_at _ _ _ _ _ _ _ _ hr ho _).mono ?_; rintro e w' ⟨rfl, hb⟩)
  go_ret
  exact ⟨(show (Ending.returned (.string nm)) = _ by rw [show rowOf op = _ from hr]), bstep hb _⟩
theorem op_machine (op : Int) (w : World) : Calls Try.prog 12 #[.int .i64 op] w fun e w' => e = .returned (.bool (rowOf op).mc) ∧ Below w.heap.size w w' := by
  obtain ⟨nm, d, a0, a1, lb, mc, hr⟩ := row_parts op
  obtain ⟨ok, ho⟩ := ok_part op
  go_enter Try.func12, Try.ntmps12
  go_wp2_with (go_at_call 22; refine (find_at _ _ _ _ _ _ _ _ hr ho _).mono ?_; rintro e w' ⟨rfl, hb⟩)
  go_ret
  exact ⟨(show (Ending.returned (.bool mc)) = _ by rw [show rowOf op = _ from hr]), bstep hb _⟩
theorem op_gives (op : Int) (w : World) : Calls Try.prog 9 #[.int .i64 op] w fun e w' => e = .returned (.tuple #[.bool ((rowOf op).d != 0 && Go.bits .and .i64 (rowOf op).d 16 == 0), .bool ((rowOf op).d != 0)]) ∧ Below w.heap.size w w' := by
  obtain ⟨nm, d, a0, a1, lb, mc, hr⟩ := row_parts op
  obtain ⟨ok, ho⟩ := ok_part op
  have E : Hid ((rowOf op).d = d) := (show (rowOf op).d = d by rw [show rowOf op = _ from hr])
  by_cases hd : d = 0
  · have h1 : (d != 0) = false := by simp [hd]
    have h2 : (d == 0) = true := by simp [hd]
    have H : Hid (d = 0) := hd
    clear hd
    refine Calls.mono (R := fun e w' => e = .returned (.tuple #[.bool false, .bool false]) ∧ Below w.heap.size w w') ?_ (fun e w' h => ⟨by rw [h.1, show (rowOf op).d = d from E, show d = 0 from H]; rfl, h.2⟩)
    go_enter Try.func9, Try.ntmps9
    go_wp2_with (go_at_call 22; refine (find_at _ _ _ _ _ _ _ _ hr ho _).mono ?_; rintro e w' ⟨rfl, hb⟩)
    go_quiet (fail)
    go_wp2
    go_ret2
    exact ⟨rfl, bdrew (bstep hb _) _⟩
  · have h1 : (d != 0) = true := by simp [hd]
    have h2 : (d == 0) = false := by simp [hd]
    clear hd
    refine Calls.mono (R := fun e w' => e = .returned (.tuple #[.bool (Go.bits .and .i64 d 16 == 0), .bool true]) ∧ Below w.heap.size w w') ?_ (fun e w' h => ⟨by rw [h.1, show (rowOf op).d = d from E, h1]; rfl, h.2⟩)
    go_enter Try.func9, Try.ntmps9
    go_wp2_with (go_at_call 22; refine (find_at _ _ _ _ _ _ _ _ hr ho _).mono ?_; rintro e w' ⟨rfl, hb⟩)
    go_quiet (fail)
    go_wp2
    go_ret2
    exact ⟨rfl, bdrew (bstep hb _) _⟩
theorem op_labels (op cases : Int) (w : World) : Calls Try.prog 14 #[.int .i64 op, .int .i64 cases] w fun e w' => e = .returned (.int .i64 (if (rowOf op).lb < 0 then wrap64 (cases + 1) else (rowOf op).lb)) ∧ Below w.heap.size w w' := by
  obtain ⟨nm, d, a0, a1, lb, mc, hr⟩ := row_parts op
  obtain ⟨ok, ho⟩ := ok_part op
  have E : Hid ((rowOf op).lb = lb) := (show (rowOf op).lb = lb by rw [show rowOf op = _ from hr])
  by_cases hl : lb < 0
  · refine Calls.mono (R := fun e w' => e = .returned (.int .i64 (wrap64 (cases + 1))) ∧ Below w.heap.size w w') ?_ (fun e w' h => ⟨by rw [h.1, show (rowOf op).lb = lb from E, if_pos hl], h.2⟩)
    go_enter Try.func14, Try.ntmps14
    go_wp2_with (go_at_call 22; refine (find_at _ _ _ _ _ _ _ _ hr ho _).mono ?_; rintro e w' ⟨rfl, hb⟩)
    go_ret
    exact ⟨rfl, bstep hb _⟩
  · refine Calls.mono (R := fun e w' => e = .returned (.int .i64 lb) ∧ Below w.heap.size w w') ?_ (fun e w' h => ⟨by rw [h.1, show (rowOf op).lb = lb from E, if_neg hl], h.2⟩)
    go_enter Try.func14, Try.ntmps14
    go_wp2_with (go_at_call 22; refine (find_at _ _ _ _ _ _ _ _ hr ho _).mono ?_; rintro e w' ⟨rfl, hb⟩)
    go_ret
    exact ⟨rfl, bstep hb _⟩
/-- What a place may have. -/
def placeOf (op i : Int) : Int := if i = -1 then (rowOf op).d else if op = 19 ∧ 0 ≤ i ∧ i < 8 then (rowOf op).a0 else if i = 0 then (rowOf op).a0 else if i = 1 then (rowOf op).a1 else 0
theorem op_place (op i : Int) (w : World) : Calls Try.prog 23 #[.int .i64 op, .int .i64 i] w fun e w' => e = .returned (.int .i64 (placeOf op i)) ∧ Below w.heap.size w w' := by
  obtain ⟨nm, d, a0, a1, lb, mc, hr⟩ := row_parts op
  obtain ⟨ok, ho⟩ := ok_part op
  by_cases h1 : i = -1
  · refine Calls.mono (R := fun e w' => e = .returned (.int .i64 (d)) ∧ Below w.heap.size w w') ?_ (fun e w' h => ⟨by rw [h.1]; unfold placeOf; rw [show rowOf op = _ from hr]; rw [if_pos h1], h.2⟩)
    have f1 : (i == -1) = true := by simp [h1]
    clear h1
    go_enter Try.func23, Try.ntmps23
    go_wp2_with (go_at_call 22; refine (find_at _ _ _ _ _ _ _ _ hr ho _).mono ?_; rintro e w' ⟨rfl, hb⟩)
    go_ret
    exact ⟨rfl, bstep hb _⟩
  by_cases h2 : op = 19 ∧ 0 ≤ i ∧ i < 8
  · refine Calls.mono (R := fun e w' => e = .returned (.int .i64 (a0)) ∧ Below w.heap.size w w') ?_ (fun e w' h => ⟨by rw [h.1]; unfold placeOf; rw [show rowOf op = _ from hr]; rw [if_neg h1, if_pos h2], h.2⟩)
    have f1 : (i == -1) = false := by simp [h1]
    obtain ⟨h2, h3, h4⟩ := h2
    have f2 : (op == 19) = true := by simp [h2]
    clear h1 h2
    go_enter Try.func23, Try.ntmps23
    go_wp2_with (go_at_call 22; refine (find_at _ _ _ _ _ _ _ _ hr ho _).mono ?_; rintro e w' ⟨rfl, hb⟩)
    go_ret
    exact ⟨rfl, bstep hb _⟩
  by_cases h3 : i = 0
  · refine Calls.mono (R := fun e w' => e = .returned (.int .i64 (a0)) ∧ Below w.heap.size w w') ?_ (fun e w' h => ⟨by rw [h.1]; unfold placeOf; rw [show rowOf op = _ from hr]; rw [if_neg h1, if_neg h2, if_pos h3], h.2⟩)
    obtain rfl := h3
    have f2 : (op == 19) = false := by simp; omega
    clear h1 h2
    go_enter Try.func23, Try.ntmps23
    go_wp2_with (go_at_call 22; refine (find_at _ _ _ _ _ _ _ _ hr ho _).mono ?_; rintro e w' ⟨rfl, hb⟩)
    go_ret
    exact ⟨rfl, bstep hb _⟩
  by_cases h4 : i = 1
  · refine Calls.mono (R := fun e w' => e = .returned (.int .i64 (a1)) ∧ Below w.heap.size w w') ?_ (fun e w' h => ⟨by rw [h.1]; unfold placeOf; rw [show rowOf op = _ from hr]; rw [if_neg h1, if_neg h2, if_neg h3, if_pos h4], h.2⟩)
    obtain rfl := h4
    have f2 : (op == 19) = false := by simp; omega
    clear h1 h2 h3
    go_enter Try.func23, Try.ntmps23
    go_wp2_with (go_at_call 22; refine (find_at _ _ _ _ _ _ _ _ hr ho _).mono ?_; rintro e w' ⟨rfl, hb⟩)
    go_ret
    exact ⟨rfl, bstep hb _⟩
  by_cases h5 : op = 19
  · refine Calls.mono (R := fun e w' => e = .returned (.int .i64 (0)) ∧ Below w.heap.size w w') ?_ (fun e w' h => ⟨by rw [h.1]; unfold placeOf; rw [show rowOf op = _ from hr]; rw [if_neg h1, if_neg h2, if_neg h3, if_neg h4], h.2⟩)
    have f1 : (i == -1) = false := by simp [h1]
    have f2 : (op == 19) = true := by simp [h5]
    have f3 : i < 0 ∨ 8 ≤ i := by omega
    clear h1 h2 h3 h4 h5
    rcases f3 with f3 | f3
    all_goals
      go_enter Try.func23, Try.ntmps23
      go_wp2_with (go_at_call 22; refine (find_at _ _ _ _ _ _ _ _ hr ho _).mono ?_; rintro e w' ⟨rfl, hb⟩)
      go_ret
      exact ⟨rfl, bstep hb _⟩
  · refine Calls.mono (R := fun e w' => e = .returned (.int .i64 (0)) ∧ Below w.heap.size w w') ?_ (fun e w' h => ⟨by rw [h.1]; unfold placeOf; rw [show rowOf op = _ from hr]; rw [if_neg h1, if_neg h2, if_neg h3, if_neg h4], h.2⟩)
    have f1 : (i == -1) = false := by simp [h1]
    have f2 : (op == 19) = false := by simp [h5]
    have f3 : i < 0 ∨ 2 ≤ i := by omega
    clear h1 h2 h3 h4 h5
    rcases f3 with f3 | f3
    all_goals
      go_enter Try.func23, Try.ntmps23
      go_wp2_with (go_at_call 22; refine (find_at _ _ _ _ _ _ _ _ hr ho _).mono ?_; rintro e w' ⟨rfl, hb⟩)
      go_ret
      exact ⟨rfl, bstep hb _⟩
/-- How many places an operation takes from, at least and at most. -/
def argsOf (op : Int) : Int × Int := if op = 19 then (0, 8) else if isOp op = false then (0, 0) else if (rowOf op).a0 = 0 then (0, 0) else if (rowOf op).a1 = 0 then (1, 1) else (2, 2)
theorem op_args (op : Int) (w : World) : Calls Try.prog 8 #[.int .i64 op] w fun e w' => e = .returned (.tuple #[.int .i64 (argsOf op).1, .int .i64 (argsOf op).2]) ∧ Below w.heap.size w w' := by
  obtain ⟨nm, d, a0, a1, lb, mc, hr⟩ := row_parts op
  obtain ⟨ok, ho⟩ := ok_part op
  by_cases h1 : op = 19
  · refine Calls.mono (R := fun e w' => e = .returned (.tuple #[.int .i64 0, .int .i64 8]) ∧ Below w.heap.size w w') ?_ (fun e w' h => ⟨by rw [h.1]; unfold argsOf; rw [show rowOf op = _ from hr]; rw [if_pos h1], h.2⟩)
    have f1 : (op == 19) = true := by simp [h1]
    clear h1
    go_enter Try.func8, Try.ntmps8
    go_wp2_with (go_at_call 22; refine (find_at _ _ _ _ _ _ _ _ hr ho _).mono ?_; rintro e w' ⟨rfl, hb⟩)
    go_ret2
    exact ⟨rfl, bstep hb _⟩
  have f1 : (op == 19) = false := by simp [h1]
  by_cases h2 : ok = false
  · refine Calls.mono (R := fun e w' => e = .returned (.tuple #[.int .i64 0, .int .i64 0]) ∧ Below w.heap.size w w') ?_ (fun e w' h => ⟨by rw [h.1]; unfold argsOf; rw [show rowOf op = _ from hr]; rw [if_neg h1, if_pos (by rw [show isOp op = ok from ho]; exact h2)], h.2⟩)
    subst h2
    clear h1
    go_enter Try.func8, Try.ntmps8
    go_wp2_with (go_at_call 22; refine (find_at _ _ _ _ _ _ _ _ hr ho _).mono ?_; rintro e w' ⟨rfl, hb⟩)
    go_ret2
    exact ⟨rfl, bstep hb _⟩
  by_cases h3 : a0 = 0
  · refine Calls.mono (R := fun e w' => e = .returned (.tuple #[.int .i64 0, .int .i64 0]) ∧ Below w.heap.size w w') ?_ (fun e w' h => ⟨by rw [h.1]; unfold argsOf; rw [show rowOf op = _ from hr]; rw [if_neg h1, if_neg (by rw [show isOp op = ok from ho]; exact h2), if_pos h3], h.2⟩)
    have f2 : ok = true := by simpa using h2
    subst f2
    subst h3
    clear h1 h2
    go_enter Try.func8, Try.ntmps8
    go_wp2_with (go_at_call 22; refine (find_at _ _ _ _ _ _ _ _ hr ho _).mono ?_; rintro e w' ⟨rfl, hb⟩)
    go_rounds 1
    go_ret2
    exact ⟨rfl, bstep hb _⟩
  have f3 : (a0 != 0) = true := by simp [h3]
  by_cases h4 : a1 = 0
  · refine Calls.mono (R := fun e w' => e = .returned (.tuple #[.int .i64 1, .int .i64 1]) ∧ Below w.heap.size w w') ?_ (fun e w' h => ⟨by rw [h.1]; unfold argsOf; rw [show rowOf op = _ from hr]; rw [if_neg h1, if_neg (by rw [show isOp op = ok from ho]; exact h2), if_neg h3, if_pos h4], h.2⟩)
    have f2 : ok = true := by simpa using h2
    subst f2
    subst h4
    clear h1 h2 h3
    go_enter Try.func8, Try.ntmps8
    go_wp2_with (go_at_call 22; refine (find_at _ _ _ _ _ _ _ _ hr ho _).mono ?_; rintro e w' ⟨rfl, hb⟩)
    go_rounds 2
    go_ret2
    exact ⟨rfl, bstep hb _⟩
  have f4 : (a1 != 0) = true := by simp [h4]
  · refine Calls.mono (R := fun e w' => e = .returned (.tuple #[.int .i64 2, .int .i64 2]) ∧ Below w.heap.size w w') ?_ (fun e w' h => ⟨by rw [h.1]; unfold argsOf; rw [show rowOf op = _ from hr]; rw [if_neg h1, if_neg (by rw [show isOp op = ok from ho]; exact h2), if_neg h3, if_neg h4], h.2⟩)
    have f2 : ok = true := by simpa using h2
    subst f2
    clear h1 h2 h3 h4
    go_enter Try.func8, Try.ntmps8
    go_wp2_with (go_at_call 22; refine (find_at _ _ _ _ _ _ _ _ hr ho _).mono ?_; rintro e w' ⟨rfl, hb⟩)
    go_rounds 3
    go_ret2
    exact ⟨rfl, bstep hb _⟩
end Go.Proofs.Ytnlemjfkgbgogaa.X
