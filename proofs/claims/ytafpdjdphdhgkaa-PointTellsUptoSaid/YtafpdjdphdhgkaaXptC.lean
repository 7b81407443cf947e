/- The statement of points: its example, walked. -/
import Derived.Test.YtafpdjdphdhgkaaXptB
namespace Go.Proofs.Ytafpdjdphdhgkaa.X
open Go.RowKit Go.Proofs.Ytafpdjdphdhgkaa.P Go.Proofs.YtafpdjdphdhgkaaW.PrintWords Go.Proofs.YtafpdjdphdhgkaaW.PrintLast Go.Proofs.YtafpdjdphdhgkaaW.PrintMore
set_option linter.unusedVariables false
set_option linter.unusedSimpArgs false
theorem blk_new' (W : World) (o : Obj) (b : Nat) (hb : b = W.heap.size) : (W.alloc o).heap[b]? = some o := by
  subst hb
  exact blk_new W o
/-- The example's function lies there. -/
def ExampleAt (w : World) (v : Value) (W : World) : Prop := ∃ A g, v = .pointer (some ⟨g, 0, none⟩) ∧ W.heap[g]? = some (.cells #[.bool false, .string ⟨#[]⟩, .slice none 0 0, .slice none 0 0, .slice A 3 3] 26 (0, 0)) ∧ BlocksAt W A [2, 0, 3] ∧ Below w.heap.size w W
theorem blocks_of (W : World) (b : Nat) (A1 A2 A3 : Option Addr) (c1 c2 c3 : Nat) (h : W.heap[b]? = some (.cells #[.string ⟨#[]⟩, .bool false, .slice none 0 0, .slice A1 2 c1, .string ⟨#[]⟩, .bool false, .slice none 0 0, .slice A2 0 c2, .string ⟨#[]⟩, .bool false, .slice none 0 0, .slice A3 3 c3] 35 (0, 0))) : BlocksAt W (some ⟨b, 0, none⟩) [2, 0, 3] := by
  intro j hj
  have hj' : j < 3 := hj
  match j, hj' with
  | 0, _ => exact ⟨⟨b, 0, none⟩, ⟨#[]⟩, false, none, 0, 0, A1, c1, rfl, blk_cell h 0, blk_cell h 1, blk_cell h 2, blk_cell h 3⟩
  | 1, _ => exact ⟨⟨b, 0, none⟩, ⟨#[]⟩, false, none, 0, 0, A2, c2, rfl, blk_cell h 4, blk_cell h 5, blk_cell h 6, blk_cell h 7⟩
  | 2, _ => exact ⟨⟨b, 0, none⟩, ⟨#[]⟩, false, none, 0, 0, A3, c3, rfl, blk_cell h 8, blk_cell h 9, blk_cell h 10, blk_cell h 11⟩
def exTab : List Int := [0, 2, 2, 5]
theorem exTab_eq : tabOf [2, 0, 3] 3 = exTab := by kernel_rfl

theorem says_cast {f : FuncId} {a : Array Value} {v v' : Value} {w : World} (h : Calls Try.prog f a w (Says v w)) (e : v = v') : Calls Try.prog f a w (Says v' w) := e ▸ h
section
variable (g : Nat) (w : World) (h : TableAt w g exTab)
include h
theorem ex_count : Calls Try.prog 8 #[.pointer (some ⟨g, 0, none⟩)] w (Says (.int .i64 5) w) := says_cast (pt_count g exTab (by decide) w h) (by kernel_rfl)
theorem ex_blocks : Calls Try.prog 10 #[.pointer (some ⟨g, 0, none⟩)] w (Says (.int .i64 3) w) := says_cast (pt_blocks g exTab (by decide) w h) (by kernel_rfl)
theorem ex_where2 : Calls Try.prog 15 #[.pointer (some ⟨g, 0, none⟩), .int .i64 2] w (Says (.tuple #[.int .i64 2, .int .i64 0]) w) := says_cast (pt_where g exTab 2 (by decide) (by decide) (by decide) (by decide) 10 2 false (by kernel_rfl) (by decide) (by decide) w h) (by kernel_rfl)
theorem ex_where1 : Calls Try.prog 15 #[.pointer (some ⟨g, 0, none⟩), .int .i64 1] w (Says (.tuple #[.int .i64 0, .int .i64 1]) w) := says_cast (pt_where g exTab 1 (by decide) (by decide) (by decide) (by decide) 10 0 true (by kernel_rfl) (by decide) (by decide) w h) (by kernel_rfl)
theorem ex_len2 : Calls Try.prog 13 #[.pointer (some ⟨g, 0, none⟩), .int .i64 2] w (Says (.int .i64 3) w) := says_cast (pt_lenx g exTab 2 (by decide) w h) (by kernel_rfl)
theorem ex_of : Calls Try.prog 14 #[.pointer (some ⟨g, 0, none⟩), .int .i64 2, .int .i64 1] w (Says (.int .i64 3) w) := says_cast (pt_of g exTab 2 1 (by decide) w h) (by kernel_rfl)
theorem ex_ahead : Calls Try.prog 16 #[.pointer (some ⟨g, 0, none⟩), .int .i64 2, .int .i64 2] w (Says (.int .i64 8) w) := says_cast (pt_ahead g exTab 2 2 (by decide) w h) (by kernel_rfl)
theorem ex_behind2 : Calls Try.prog 17 #[.pointer (some ⟨g, 0, none⟩), .int .i64 2, .int .i64 2] w (Says (.int .i64 (-1)) w) := says_cast (pt_behind g exTab 2 2 (by decide) w h) (by kernel_rfl)
theorem ex_behind0 : Calls Try.prog 17 #[.pointer (some ⟨g, 0, none⟩), .int .i64 2, .int .i64 0] w (Says (.int .i64 5) w) := says_cast (pt_behind g exTab 2 0 (by decide) w h) (by kernel_rfl)
theorem ex_span : Calls Try.prog 11 #[.pointer (some ⟨g, 0, none⟩), .int .i64 2] w (Says (.tuple #[.int .i64 4, .int .i64 9]) w) := says_cast (pt_span g exTab 2 (by decide) w h) (by kernel_rfl)
omit h in
theorem ex_block5 (h : TableAt w g exTab) : Calls Try.prog 19 #[.pointer (some ⟨g, 0, none⟩), .int .i64 5] w (Says (.int .i64 2) w) := says_cast (pt_block g exTab 5 2 0 (by decide) (by decide) (by decide) (fun w h => ex_where2 g w h) w h) (by kernel_rfl)
omit h in
theorem ex_block3 (h : TableAt w g exTab) : Calls Try.prog 19 #[.pointer (some ⟨g, 0, none⟩), .int .i64 3] w (Says (.int .i64 (-1)) w) := says_cast (pt_block g exTab 3 0 1 (by decide) (by decide) (by decide) (fun w h => ex_where1 g w h) w h) (by kernel_rfl)
end
set_option maxHeartbeats 2000000 in
set_option maxRecDepth 100000 in
theorem pt_works (w : World) : Calls Try.prog 6 #[] w fun e w' => e = .returned (.bool true) ∧ Below w.heap.size w w' := by
  have mk2 : ∀ W : World, (Instr.makeSlice 33 (.int .i64 2) (.int .i64 2)).run Try.prog W = .ok (.slice (some ⟨W.heap.size, 0, none⟩) 2 2) (W.alloc (.cells (madeCells #[.int .i64 0, .int .i64 0, .int .i64 0, .int .i64 0, .int .i64 0, .slice none 0 0, .string ⟨#[]⟩, .int .i64 0, .slice none 0 0, .slice none 0 0] 20) 49)) := fun _ => by kernel_rfl
  have mk3 : ∀ W : World, (Instr.makeSlice 33 (.int .i64 3) (.int .i64 3)).run Try.prog W = .ok (.slice (some ⟨W.heap.size, 0, none⟩) 3 3) (W.alloc (.cells (madeCells #[.int .i64 0, .int .i64 0, .int .i64 0, .int .i64 0, .int .i64 0, .slice none 0 0, .string ⟨#[]⟩, .int .i64 0, .slice none 0 0, .slice none 0 0] 30) 49)) := fun _ => by kernel_rfl
  go_enter Try.func6, Try.ntmps6
  go_upto_region 1 with (fail)
  go_cut [1] (fun v1 wc => ExampleAt w v1 wc)
  case first =>
    go_region
    all_goals
      go_wp2
      go_meet
      case rel =>
        apply Exists.intro
        apply Exists.intro
        refine ⟨rfl, ?_, ?_, ?_⟩
        · repeat (first | ((with_reducible refine blk_new' _ _ _ ?_); (first | rfl | (simp; done))) | (with_reducible refine blk_drew ?_) | (with_reducible refine blk_alloc ?_ _))
        · apply blocks_of
          repeat (first | ((with_reducible refine blk_new' _ _ _ ?_); (first | rfl | (simp; done))) | (with_reducible refine blk_drew ?_) | (with_reducible refine blk_alloc ?_ _))
        · repeat (first | exact Below.refl _ _ | (with_reducible apply below_alloc) | (with_reducible apply below_drew))
  case rest =>
    clear mk2 mk3
    obtain ⟨A, g, rfl, hg, hbl, hb⟩ := hcut
    have HG := Aside0.mk hg
    have HBL := Aside0.mk hbl
    have HB := Aside0.mk hb
    have x0 := blk_cell hg 0
    have x1 := blk_cell hg 1
    have x2 := blk_cell hg 2
    have x3 := blk_cell hg 3
    have x4 := blk_cell hg 4
    clear hg hbl hb
    go_wp2_with (go_at_call 7; refine (pt_new false ⟨#[]⟩ none none A 0 0 0 0 3 [2, 0, 3] _ HBL.out (by decide) (by decide)).mono ?_; rintro e w' h; obtain ⟨g2, rfl, ht, hb2⟩ := h)
    have HT := Aside0.mk (show TableAt w' g2 exTab by rw [← exTab_eq]; exact ht)
    have HB2 := Aside0.mk hb2
    clear ht hb2
    go_wp2_with (first | (go_at_call 15; ((with_reducible refine (ex_where2 _ _ HT.out).mono ?_); rintro e w' ⟨rfl, n_, rfl⟩)) | (go_at_call 11; ((with_reducible refine (ex_span _ _ (HT.out.drewN _)).mono ?_); rintro e w' ⟨rfl, n_, rfl⟩)) | (go_at_call 8; ((with_reducible refine (ex_count _ _ (HT.out.drewN _)).mono ?_); rintro e w' ⟨rfl, n_, rfl⟩)) | (go_at_call 10; ((with_reducible refine (ex_blocks _ _ (HT.out.drewN _)).mono ?_); rintro e w' ⟨rfl, n_, rfl⟩)) | (go_at_call 13; ((with_reducible refine (ex_len2 _ _ (HT.out.drewN _)).mono ?_); rintro e w' ⟨rfl, n_, rfl⟩)) | (go_at_call 14; ((with_reducible refine (ex_of _ _ (HT.out.drewN _)).mono ?_); rintro e w' ⟨rfl, n_, rfl⟩)) | (go_at_call 16; ((with_reducible refine (ex_ahead _ _ (HT.out.drewN _)).mono ?_); rintro e w' ⟨rfl, n_, rfl⟩)) | (go_at_call 17; ((with_reducible refine (ex_behind2 _ _ (HT.out.drewN _)).mono ?_); rintro e w' ⟨rfl, n_, rfl⟩)) | (go_at_call 17; ((with_reducible refine (ex_behind0 _ _ (HT.out.drewN _)).mono ?_); rintro e w' ⟨rfl, n_, rfl⟩)) | (go_at_call 19; ((with_reducible refine (ex_block5 _ _ (HT.out.drewN _)).mono ?_); rintro e w' ⟨rfl, n_, rfl⟩)) | (go_at_call 19; ((with_reducible refine (ex_block3 _ _ (HT.out.drewN _)).mono ?_); rintro e w' ⟨rfl, n_, rfl⟩)))
    go_ret
    exact ⟨rfl, pw_below_drewN (below_then HB.out HB.out.size HB2.out) _⟩
end Go.Proofs.Ytafpdjdphdhgkaa.X
