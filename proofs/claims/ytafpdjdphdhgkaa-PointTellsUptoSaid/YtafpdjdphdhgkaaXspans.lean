/- The statement PointSpans, walked: for functions of which nothing is too long. -/
import Derived.Test.YtafpdjdphdhgkaaXptD
import Derived.Test.YtafpdjdphdhgkaaXlarge
namespace Go.Proofs.Ytafpdjdphdhgkaa.X
open Go.RowKit Go.Proofs.Ytafpdjdphdhgkaa.P Go.Proofs.YtafpdjdphdhgkaaW.PrintWords Go.Proofs.YtafpdjdphdhgkaaW.PrintLast Go.Proofs.YtafpdjdphdhgkaaW.PrintMore
set_option linter.unusedVariables false
set_option linter.unusedSimpArgs false

theorem pt_count_tab (cs : List Nat) (n : Nat) (hb : S cs n ≤ 1048576) (g : Nat) (w : World) (ht : TableAt w g (tabOf cs n)) :
    Calls Try.prog 8 #[.pointer (some ⟨g, 0, none⟩)] w (Says (.int .i64 (S cs n)) w) := by
  have := pt_count g (tabOf cs n) (by rw [tabOf_length]; omega) w ht
  rw [tab_len, tab_rd cs n hb _ (by omega) (by omega), show ((n : Int)).toNat = n by omega] at this
  exact this
theorem pt_span_tab (cs : List Nat) (n : Nat) (hb : S cs n ≤ 1048576) (b : Nat) (h : b < n) (g : Nat) (w : World) (ht : TableAt w g (tabOf cs n)) :
    Calls Try.prog 11 #[.pointer (some ⟨g, 0, none⟩), .int .i64 b] w (Says (.tuple #[.int .i64 (if cnt cs b = 0 then 0 else 2 * (S cs b : Int)), .int .i64 (if cnt cs b = 0 then 0 else 2 * (S cs (b + 1) : Int) - 1)]) w) := by
  have := pt_span g (tabOf cs n) b (by rw [tabOf_length]; omega) w ht
  rw [spanB_tab cs n hb b h] at this
  by_cases hc : cnt cs b = 0
  · rw [if_pos hc, if_pos hc]
    rw [if_pos hc] at this
    exact this
  · rw [if_neg hc, if_neg hc]
    rw [if_neg hc] at this
    exact this
theorem codes_length (l : List S35) : (codes l).length = l.length := by simp [codes]
def NewPostF (cs : List Nat) (n : Nat) (w : World) (e : Ending) (w' : World) : Prop := ∃ g, e = .returned (.pointer (some ⟨g, 0, none⟩)) ∧ TableAt w' g (tabOf cs n) ∧ Below w.heap.size w w'
theorem pt_new_f (m : Bool) (nm : ByteArray) (A2 A3 A4 : Option Addr) (n2 c2 n3 c3 c4 : Nat) (l : List S35) (w : World) (hr : Kd.C k35 w A4 l.length l) (hc : l.length ≤ c4) (hsmall : l.length ≤ 1048576) :
    Calls Try.prog 7 #[.agg #[.bool m, .string nm, .slice A2 n2 c2, .slice A3 n3 c3, .slice A4 l.length c4]] w (NewPostF (codes l) l.length w) := by
  have := pt_new m nm A2 A3 A4 n2 c2 n3 c3 c4 (codes l) w (BlocksAt.of_C hr) (by rw [codes_length]; exact hc) (by rw [codes_length]; exact hsmall)
  rw [codes_length] at this
  refine this.mono ?_
  rintro e w' ⟨g, h1, h2, h3⟩
  rw [codes_length] at h2
  exact ⟨g, h1, h2, h3⟩
set_option maxHeartbeats 4000000 in
set_option maxRecDepth 100000 in
theorem spans_walk (m : Bool) (nm : ByteArray) (A2 A3 A4 : Option Addr) (c2 c3 c4 : Nat) (l2 : List S74) (l3 : List S45) (l4 : List S35) (w : World)
    (hr2 : Kd.C k74 w A2 l2.length l2) (hc2 : l2.length ≤ c2) (hr3 : Kd.C k45 w A3 l3.length l3) (hc3 : l3.length ≤ c3) (hr4 : Kd.C k35 w A4 l4.length l4) (hc4 : l4.length ≤ c4)
    (hs : Short l4) (hb : S (codes l4) l4.length ≤ 1048576) :
    Calls Try.prog 4 #[.agg #[.bool m, .string nm, .slice A2 l2.length c2, .slice A3 l3.length c3, .slice A4 l4.length c4]] w fun e w' => e = .returned (.bool true) ∧ Below w.heap.size w w' := by
  obtain ⟨k, r, hL⟩ := large_ends m nm l2 l3 l4 hs
  have HL := Aside0.mk hL
  have R2 := Aside0.mk hr2
  have R3 := Aside0.mk hr3
  have R4 := Aside0.mk hr4
  have HS := Aside0.mk hs
  have HBB := Aside0.mk hb
  have hn := hs.1
  clear hL hr2 hr3 hr4 hs hb
  have hu1 := Try.underlying26
  have B0 : ∀ o, Below w.heap.size w (w.alloc o) := fun o => below_alloc (Below.refl _ _) o
  have L0 : ∀ o, Calls Try.prog 5 #[.agg #[.bool m, .string nm, .slice A2 l2.length c2, .slice A3 l3.length c3, .slice A4 l4.length c4]] (w.alloc o) fun e w' => e = .returned (.bool r) ∧ Below (w.alloc o).heap.size (w.alloc o) w' := fun o => dyehouseref12_Large.calls k m nm A2 c2 l2 A3 c3 l3 A4 c4 l4 r _ (Kd.C_below R2.out (B0 o)) hc2 (Kd.C_below R3.out (B0 o)) hc3 (Kd.C_below R4.out (B0 o)) hc4 HL.out
  have LA := Aside0.mk L0
  have BA := Aside0.mk B0
  clear L0 B0
  cases r with
  | true =>
    go_enter Try.func4, Try.ntmps4
    go_wp2_with (first | (go_at_call 5; refine (LA.out _).mono ?_; rintro e w1 ⟨rfl, hb1⟩) | (go_at_call 6; refine (pt_works _).mono ?_; rintro e w2 ⟨rfl, hb2⟩))
    go_ret
    exact ⟨rfl, (below_then (below_then (BA.out _) (BA.out _).size hb1) (by have h1 := hb1.size; simp at h1; omega) hb2)⟩
  | false =>
    go_enter Try.func4, Try.ntmps4
    go_wp2_with (go_at_call 5; refine (LA.out _).mono ?_; rintro e w1 ⟨rfl, hb1⟩; have BW1 := Aside0.mk (below_then (BA.out _) (BA.out _).size hb1); have hx := blk_below (heap_alloc_new w _) hb1; have HX := Aside0.mk hx; have x0 := blk_cell hx 0; have x1 := blk_cell hx 1; have x2 := blk_cell hx 2; have x3 := blk_cell hx 3; have x4 := blk_cell hx 4; clear hb1 hx)
    refine (pt_new_f m nm A2 A3 A4 _ c2 _ c3 c4 l4 _ (Kd.C_below R4.out BW1.out) hc4 hn).mono ?_
    rintro e w2 ⟨g, rfl, ht, hb2⟩
    have HT := Aside0.mk ht
    have BW2 := Aside0.mk (below_then BW1.out BW1.out.size hb2)
    replace x0 := pw_cell_below hb2 x0
    replace x1 := pw_cell_below hb2 x1
    replace x2 := pw_cell_below hb2 x2
    replace x3 := pw_cell_below hb2 x3
    replace x4 := pw_cell_below hb2 x4
    clear ht hb2 HX BW1
    revert HT HBB
    generalize codes l4 = cs
    intro HBB HT
    have hbb := HBB.out
    generalize hN : l4.length = n at *
    clear hN
    go_wp2
    go_loopg [4, 5] (n + 1) (fun kq v4 v5 W => ∃ (b : Nat) (mm : Nat), v4 = .int .i64 (2 * (S cs b : Int)) ∧ v5 = .int .i64 (b : Int) ∧ Aside0 (kq + b = n + 1) ∧ Aside0 (b ≤ n) ∧ W = w2.drewN mm)
    case atStart => exact ⟨0, 0, rfl, rfl, ⟨rfl⟩, ⟨Nat.zero_le _⟩, rfl⟩
    case round =>
      obtain ⟨gk0, rfl⟩ : ∃ g_, g_ = gk := ⟨_, rfl⟩
      obtain ⟨b, mm, rfl, rfl, HK, HL2, rfl⟩ := hrel
      have hbn := HL2.out
      have hsb := S_mono cs b n hbn
      by_cases hlt : b < n
      · have SP := fun W ht => pt_span_tab cs n hbb b hlt g W ht
        have e1 : S cs (b + 1) = S cs b + cnt cs b := rfl
        have hs1 := S_mono cs (b + 1) n hlt
        by_cases hc : cnt cs b = 0
        · rw [if_pos hc, if_pos hc] at SP
          have SPA := Aside0.mk SP
          have E1 := Aside0.mk (show S cs (b + 1) = S cs b by omega)
          clear SP e1 hs1 hc
          go_wp2_with (go_at_call 11; refine (SPA.out _ (HT.out.drewN _)).mono ?_; rintro e w' ⟨rfl, n_, rfl⟩)
          go_roundg (gk0 - 1)
          case measure => have := HK.out; omega
          case rel => exact ⟨b + 1, _, by rw [E1.out], by go_num, ⟨by have := HK.out; omega⟩, ⟨hlt⟩, rfl⟩
        · rw [if_neg hc, if_neg hc] at SP
          have SPA := Aside0.mk SP
          have E1 := Aside0.mk e1
          have hk : 1 ≤ cnt cs b := by omega
          have hs2 : S cs b + 1 ≤ S cs (b + 1) := by omega
          clear SP e1 hc
          have f1 : (2 * (S cs (b + 1) : Int) - 1 == 2 * (S cs b : Int)) = false := beq_eq_false_iff_ne.mpr (by omega)
          have f2 : (2 * (S cs (b + 1) : Int) - 1 - 2 * (S cs b : Int)) % 2 = 1 := by omega
          have f4 : 0 ≤ 2 * (S cs (b + 1) : Int) - 1 - 2 * (S cs b : Int) := by omega
          go_wp2_with (go_at_call 11; refine (SPA.out _ (HT.out.drewN _)).mono ?_; rintro e w' ⟨rfl, n_, rfl⟩)
          (try simp only [f2])
          clear f1 f2 f4
          go_loopg [8] (2 * cnt cs b + 1) (fun kq v8 W => ∃ (p : Int) (mm : Nat), v8 = .int .i64 p ∧ Aside0 ((kq : Int) + p = 2 * (S cs (b + 1) : Int) + 1) ∧ 2 * (S cs b : Int) ≤ p ∧ p ≤ 2 * (S cs (b + 1) : Int) - 1 ∧ W = w2.drewN mm)
          case atStart => exact ⟨_, _, rfl, ⟨by have := E1.out; omega⟩, by omega, by omega, rfl⟩
          case round =>
            obtain ⟨p, mm, rfl, HP, hp1, hp2, rfl⟩ := hrel
            by_cases hp : p < 2 * (S cs (b + 1) : Int) - 1
            · have BL : ∀ W, TableAt W g (tabOf cs n) → Calls Try.prog 19 #[.pointer (some ⟨g, 0, none⟩), .int .i64 p] W (Says (.int .i64 b) W) := fun W ht => by
                have := block_tab cs n hn hbb b (p / 2).toNat hlt (by omega) (by omega) p (by omega) g W ht
                rw [if_neg (by omega)] at this
                exact this
              have BLA := Aside0.mk BL
              clear BL
              go_wp2_with (go_at_call 19; refine (BLA.out _ (HT.out.drewN _)).mono ?_; rintro e w' ⟨rfl, n_, rfl⟩)
              go_roundg (gk - 1)
              case measure => have := HP.out; omega
              case rel => exact ⟨p + 1, _, rfl, ⟨by have := HP.out; omega⟩, by omega, by omega, rfl⟩
            · have BL : ∀ W, TableAt W g (tabOf cs n) → Calls Try.prog 19 #[.pointer (some ⟨g, 0, none⟩), .int .i64 (2 * (S cs (b + 1) : Int) - 1)] W (Says (.int .i64 (-1)) W) := fun W ht => by
                have := block_tab cs n hn hbb b (S cs (b + 1) - 1) hlt (by omega) (by omega) (2 * (S cs (b + 1) : Int) - 1) (by omega) g W ht
                rw [if_pos (by omega)] at this
                exact this
              have BLA := Aside0.mk BL
              clear BL
              go_wp2_with (go_at_call 19; refine (BLA.out _ (HT.out.drewN _)).mono ?_; rintro e w' ⟨rfl, n_, rfl⟩)
              go_roundg (gk0 - 1)
              case measure => have := HK.out; omega
              case rel => exact ⟨b + 1, _, by rfl, by go_num, ⟨by have := HK.out; omega⟩, ⟨hlt⟩, rfl⟩
      · have e2 : b = n := by omega
        subst e2
        have CT := fun W ht => pt_count_tab cs b hbb g W ht
        have CTA := Aside0.mk CT
        have BN := fun W ht => block_none cs b hbb (2 * (S cs b : Int)) (by omega) (by omega) g W ht
        have BNA := Aside0.mk BN
        clear CT BN
        go_wp2_with (first | (go_at_call 8; refine (CTA.out _ (HT.out.drewN _)).mono ?_; rintro e w' ⟨rfl, n_, rfl⟩) | (go_at_call 19; refine (BNA.out _ (HT.out.drewN _)).mono ?_; rintro e w' ⟨rfl, n_, rfl⟩) | (go_at_call 6; refine (pt_works _).mono ?_; rintro e w3 ⟨rfl, hb3⟩))
        go_ret
        exact ⟨rfl, below_then (pw_below_drewN BW2.out _) BW2.out.size hb3⟩
end Go.Proofs.Ytafpdjdphdhgkaa.X
