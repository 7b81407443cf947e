/- The statement PointTells, walked: for functions of which nothing is too long. -/
import Derived.Test.YtafpdjdphdhgkaaXspans
import Derived.Test.YtafpdjdphdhgkaaXtellp
import Derived.Deep.RegionHeld3
import Derived.Deep.DeepCutAuto
namespace Go.Proofs.Ytafpdjdphdhgkaa.X
open Go.RowKit Go.Proofs.Ytafpdjdphdhgkaa.P Go.Proofs.YtafpdjdphdhgkaaW.PrintWords Go.Proofs.YtafpdjdphdhgkaaW.PrintLast Go.Proofs.YtafpdjdphdhgkaaW.PrintMore
set_option linter.unusedVariables false
set_option linter.unusedSimpArgs false
theorem lenOf_val (a0 : Bool) (a1 : ByteArray) (l2 : List S74) (l3 : List S45) (l4 : List S35) (hb : S (codes l4) l4.length ≤ 1048576) (b : Int) : dyehouselaw24_lenOf.f a0 a1 l2 l3 l4 b = some (lenB (tabOf (codes l4) l4.length) b) := by
  rcases rl_val a0 a1 l2 l3 l4 b with h | h
  · exact h
  · exact absurd hb h
theorem ss_to {w W W' : World} {g b0 : Nat} {tab : List Int} {v0 v1 v2 v3 v4 : Value} (hb : Below W.heap.size W W') (c0 : W.cell? ⟨b0, 0, none⟩ = some v0) (c1 : W.cell? ⟨b0, 1, none⟩ = some v1) (c2 : W.cell? ⟨b0, 2, none⟩ = some v2) (c3 : W.cell? ⟨b0, 3, none⟩ = some v3) (c4 : W.cell? ⟨b0, 4, none⟩ = some v4) (ht : Aside0 (TableAt W g tab)) (hB : Aside0 (Below w.heap.size w W)) :
    W'.cell? ⟨b0, 0, none⟩ = some v0 ∧ W'.cell? ⟨b0, 1, none⟩ = some v1 ∧ W'.cell? ⟨b0, 2, none⟩ = some v2 ∧ W'.cell? ⟨b0, 3, none⟩ = some v3 ∧ W'.cell? ⟨b0, 4, none⟩ = some v4 ∧ Aside0 (TableAt W' g tab) ∧ Aside0 (Below w.heap.size w W') :=
  ⟨pw_cell_below hb c0, pw_cell_below hb c1, pw_cell_below hb c2, pw_cell_below hb c3, pw_cell_below hb c4, ⟨ht.out.below hb⟩, ⟨below_step hB.out hb⟩⟩
theorem below_drews {W W' : World} (n : Nat) (h : Below (W.drewN n).heap.size (W.drewN n) W') : Below W.heap.size W W' := below_then (pw_below_drewN (Below.refl W.heap.size W) n) (Nat.le_refl _) h
/-- What the table says of a point's block. -/
theorem block_is (cs : List Nat) (n : Nat) (hn : n ≤ 1048576) (hb : S cs n ≤ 1048576) (p v : Int) (hp : p ≤ 9223372036854775807) (h : IsBlock cs n p v) (g : Nat) (w : World) (ht : TableAt w g (tabOf cs n)) :
    Calls Try.prog 19 #[.pointer (some ⟨g, 0, none⟩), .int .i64 p] w (Says (.int .i64 v) w) := by
  rcases h with ⟨b, m, h1, h2, h3, h4, rfl⟩ | ⟨h1, rfl⟩
  · exact block_tab cs n hn hb b m h1 h2 h3 p h4 g w ht
  · exact block_none cs n hb p h1 hp g w ht
/-- The block that an instruction is in, if there is one. -/
theorem where_any (cs : List Nat) (n : Nat) (hn : n ≤ 1048576) (hb : S cs n ≤ 1048576) (m : Int) : ∃ c j : Int, ((m < 0 ∨ (S cs n : Int) ≤ m) → c = -1 ∧ j = -1) ∧ ∀ g w, TableAt w g (tabOf cs n) → Calls Try.prog 15 #[.pointer (some ⟨g, 0, none⟩), .int .i64 m] w (Says (.tuple #[.int .i64 c, .int .i64 j]) w) := by
  by_cases h : m < 0 ∨ (S cs n : Int) ≤ m
  · exact ⟨-1, -1, fun _ => ⟨rfl, rfl⟩, fun g w ht => where_none cs n hb m h g w ht⟩
  · obtain ⟨b, h1, h2, h3⟩ := find_block cs n m.toNat (by omega)
    have e : m = (m.toNat : Int) := by omega
    refine ⟨b, (m.toNat : Int) - S cs b, fun hc => absurd hc h, fun g w ht => ?_⟩
    have := where_tab cs n hn hb b m.toNat h1 h2 h3 g w ht
    rw [← e] at this
    rw [← e]
    exact this
set_option maxHeartbeats 4000000 in
set_option maxRecDepth 100000 in
theorem tells_walk (m : Bool) (nm : ByteArray) (A2 A3 A4 : Option Addr) (c2 c3 c4 : Nat) (l2 : List S74) (l3 : List S45) (l4 : List S35) (w : World)
    (hr2 : Kd.C k74 w A2 l2.length l2) (hc2 : l2.length ≤ c2) (hr3 : Kd.C k45 w A3 l3.length l3) (hc3 : l3.length ≤ c3) (hr4 : Kd.C k35 w A4 l4.length l4) (hc4 : l4.length ≤ c4)
    (hs : Short l4) (hb : S (codes l4) l4.length ≤ 1048576) (q p : Int) (hp : p ≤ 9223372036854775807) :
    Calls Try.prog 3 #[.agg #[.bool m, .string nm, .slice A2 l2.length c2, .slice A3 l3.length c3, .slice A4 l4.length c4], .int .i64 q, .int .i64 p] w fun e w' => e = .returned (.bool true) ∧ Below w.heap.size w w' := by
  obtain ⟨k, r, hL⟩ := large_ends m nm l2 l3 l4 hs
  have hn := hs.1
  obtain ⟨kc, hkc⟩ := Ev.rounds (rc_l0 m nm l2 l3 l4 hb hn l4.length 0 (Nat.zero_add _))
  obtain ⟨rp, hrp, hrq⟩ := rp_l0 m nm l2 l3 l4 p hb hn l4.length 0 (Nat.zero_add _) (by show p < 0 ∨ 2 * (0 : Int) ≤ p; omega)
  obtain ⟨kp, hkp⟩ := Ev.rounds hrp
  obtain ⟨p1, p2, p3, p4⟩ := rp
  have HPQ := Aside0.mk (show IsBlock (codes l4) l4.length p (if p4 = true then p1 else -1) from hrq)
  clear hrp hrq
  have B0 : ∀ o, Below w.heap.size w (w.alloc o) := fun o => below_alloc (Below.refl _ _) o
  have L0 : ∀ W, Below w.heap.size w W → Calls Try.prog 5 #[.agg #[.bool m, .string nm, .slice A2 l2.length c2, .slice A3 l3.length c3, .slice A4 l4.length c4]] W fun e w' => e = .returned (.bool r) ∧ Below W.heap.size W w' := fun W hB => dyehouseref12_Large.calls k m nm A2 c2 l2 A3 c3 l3 A4 c4 l4 r _ (Kd.C_below hr2 hB) hc2 (Kd.C_below hr3 hB) hc3 (Kd.C_below hr4 hB) hc4 hL
  have CT0 : ∀ W, Below w.heap.size w W → Calls Try.prog 9 #[.agg #[.bool m, .string nm, .slice A2 l2.length c2, .slice A3 l3.length c3, .slice A4 l4.length c4]] W fun e w' => e = .returned (.int .i64 (S (codes l4) l4.length)) ∧ Below W.heap.size W w' := fun W hB => dyehouseref24_Count.calls kc m nm A2 c2 l2 A3 c3 l3 A4 c4 l4 _ _ (Kd.C_below hr2 hB) hc2 (Kd.C_below hr3 hB) hc3 (Kd.C_below hr4 hB) hc4 hkc
  have FI0 : ∀ W b, b ≤ l4.length → Below w.heap.size w W → Calls Try.prog 12 #[.agg #[.bool m, .string nm, .slice A2 l2.length c2, .slice A3 l3.length c3, .slice A4 l4.length c4], .int .i64 (b : Int)] W fun e w' => e = .returned (.int .i64 (S (codes l4) b)) ∧ Below W.heap.size W w' := fun W b hbn hB => by
    obtain ⟨kf, hkf⟩ := Ev.rounds (rf_l0 m nm l2 l3 l4 hb hn b hbn b 0 (Nat.zero_add _))
    exact dyehouseref24_First.calls kf m nm A2 c2 l2 A3 c3 l3 A4 c4 l4 _ _ _ (Kd.C_below hr2 hB) hc2 (Kd.C_below hr3 hB) hc3 (Kd.C_below hr4 hB) hc4 hkf
  have PO0 : ∀ W, Below w.heap.size w W → Calls Try.prog 18 #[.agg #[.bool m, .string nm, .slice A2 l2.length c2, .slice A3 l3.length c3, .slice A4 l4.length c4], .int .i64 p] W fun e w' => e = .returned (.tuple #[.int .i64 p1, .int .i64 p2, .bool p3, .bool p4]) ∧ Below W.heap.size W w' := fun W hB => dyehouseref24_Point.calls kp m nm A2 c2 l2 A3 c3 l3 A4 c4 l4 p p1 p2 p3 p4 _ (Kd.C_below hr2 hB) hc2 (Kd.C_below hr3 hB) hc3 (Kd.C_below hr4 hB) hc4 hkp
  have LN0 : ∀ W, Below w.heap.size w W → Calls Try.prog 20 #[.agg #[.bool m, .string nm, .slice A2 l2.length c2, .slice A3 l3.length c3, .slice A4 l4.length c4], .int .i64 q] W fun e w' => e = .returned (.int .i64 (lenB (tabOf (codes l4) l4.length) q)) ∧ Below W.heap.size W w' := fun W hB => dyehouselaw24_lenOf.calls m nm A2 c2 l2 A3 c3 l3 A4 c4 l4 q _ _ (Kd.C_below hr2 hB) hc2 (Kd.C_below hr3 hB) hc3 (Kd.C_below hr4 hB) hc4 (lenOf_val m nm l2 l3 l4 hb q)
  have LR := Aside0.mk L0
  have CTR := Aside0.mk CT0
  have FIR := Aside0.mk FI0
  have POR := Aside0.mk PO0
  have LNR := Aside0.mk LN0
  have R4 := Aside0.mk hr4
  have HBB := Aside0.mk hb
  have BA := Aside0.mk B0
  have BK0 := BlocksAt.of_C hr4
  have hcl := codes_length l4
  clear hL hkc hkp L0 CT0 FI0 PO0 LN0 hr2 hr3 hr4 hs hb B0
  have hu1 := Try.underlying26
  have hu3 := Try.underlying35
  cases r with
  | true =>
    as_aux_lemma =>
    clear BK0 hcl
    go_enter Try.func3, Try.ntmps3
    go_wp2_with (first | (go_at_call 5; refine (LR.out _ (BA.out _)).mono ?_; rintro e w1 ⟨rfl, hb1⟩) | (go_at_call 6; refine (pt_works _).mono ?_; rintro e w2 ⟨rfl, hb2⟩))
    go_ret
    exact ⟨rfl, (below_then (below_then (BA.out _) (BA.out _).size hb1) (by have h1 := hb1.size; simp at h1; omega) hb2)⟩
  | false =>
    have BKC := Aside0.mk (And.intro BK0 hcl)
    clear BK0 hcl
    go_enter Try.func3, Try.ntmps3
    go_wp2_with (go_at_call 5; refine (LR.out _ (BA.out _)).mono ?_; rintro e w1 ⟨rfl, hb1⟩; have BW1 := Aside0.mk (below_then (BA.out _) (BA.out _).size hb1); have hx := blk_below (heap_alloc_new w _) hb1; have x0 : _ = some (Value.bool m) := blk_cell hx 0; have x1 : _ = some (Value.string nm) := blk_cell hx 1; have x2 : _ = some (Value.slice A2 l2.length c2) := blk_cell hx 2; have x3 : _ = some (Value.slice A3 l3.length c3) := blk_cell hx 3; have x4 : _ = some (Value.slice A4 l4.length c4) := blk_cell hx 4; clear hb1 hx)
    refine (pt_new_f m nm A2 A3 A4 _ c2 _ c3 c4 l4 _ (Kd.C_below R4.out BW1.out) hc4 hn).mono ?_
    rintro e w2 ⟨g, rfl, ht, hb2⟩
    have HT := Aside0.mk ht
    have BW2 := Aside0.mk (below_then BW1.out BW1.out.size hb2)
    replace x0 := pw_cell_below hb2 x0
    replace x1 := pw_cell_below hb2 x1
    replace x2 := pw_cell_below hb2 x2
    replace x3 := pw_cell_below hb2 x3
    replace x4 := pw_cell_below hb2 x4
    clear ht hb2 BW1 R4 LR BA
    generalize hC : codes l4 = cs at *
    clear hC
    have hbb := HBB.out
    generalize hN : l4.length = n at *
    clear hN
    generalize l2.length = n2 at *
    generalize l3.length = n3 at *
    have CTA : Aside0 (∀ W, Aside0 (TableAt W g (tabOf cs n)) → Calls Try.prog 8 #[.pointer (some ⟨g, 0, none⟩)] W (Says (.int .i64 (S cs n)) W)) := ⟨fun W ht => pt_count_tab cs n hbb g W ht.out⟩
    have CBA : Aside0 (∀ W, Aside0 (TableAt W g (tabOf cs n)) → Calls Try.prog 10 #[.pointer (some ⟨g, 0, none⟩)] W (Says (.int .i64 (n : Int)) W)) := ⟨fun W ht => by
      have := pt_blocks g (tabOf cs n) (by rw [tabOf_length]; omega) W ht.out
      rw [tab_len] at this
      exact this⟩
    go_upto_region 4 with (fail)
    go_cut [44] (fun v44 W => v44 = .bool false ∧ W.cell? ⟨w.heap.size, 0, none⟩ = some (.bool m) ∧ W.cell? ⟨w.heap.size, 1, none⟩ = some (.string nm) ∧ W.cell? ⟨w.heap.size, 2, none⟩ = some (.slice A2 n2 c2) ∧ W.cell? ⟨w.heap.size, 3, none⟩ = some (.slice A3 n3 c3) ∧ W.cell? ⟨w.heap.size, 4, none⟩ = some (.slice A4 n c4) ∧ Aside0 (TableAt W g (tabOf cs n)) ∧ Aside0 (Below w.heap.size w W))
    case first =>
      as_aux_lemma =>
      go_region_held3 (fun W => W.cell? ⟨w.heap.size, 0, none⟩ = some (.bool m) ∧ W.cell? ⟨w.heap.size, 1, none⟩ = some (.string nm) ∧ W.cell? ⟨w.heap.size, 2, none⟩ = some (.slice A2 n2 c2) ∧ W.cell? ⟨w.heap.size, 3, none⟩ = some (.slice A3 n3 c3) ∧ W.cell? ⟨w.heap.size, 4, none⟩ = some (.slice A4 n c4) ∧ Aside0 (TableAt W g (tabOf cs n)) ∧ Aside0 (Below w.heap.size w W)) ((go_split_ands; first | exact ss_to (below_drew (Below.refl _ _)) (by assumption) (by assumption) (by assumption) (by assumption) (by assumption) (by assumption) (by assumption) | exact ss_to (pw_below_drewN (Below.refl _ _) _) (by assumption) (by assumption) (by assumption) (by assumption) (by assumption) (by assumption) (by assumption) | exact ss_to hbS_ (by assumption) (by assumption) (by assumption) (by assumption) (by assumption) (by assumption) (by assumption))) (first | (go_at_call 8; (with_reducible refine (CTA.out _ (by first | assumption | (go_split_ands; assumption))).mono ?_); rintro e w' ⟨rfl, n_, rfl⟩) | (go_at_call 10; (with_reducible refine (CBA.out _ (by first | assumption | (go_split_ands; assumption))).mono ?_); rintro e w' ⟨rfl, n_, rfl⟩) | (go_at_call 9; (with_reducible refine (CTR.out _ (by first | exact Aside0.out (by assumption) | (go_split_ands; exact Aside0.out (by assumption)))).mono ?_); rintro e w' ⟨rfl, hbS_⟩))
      all_goals
        go_wp2
        go_meet
        case rel => exact ⟨rfl, by assumption⟩
    case rest =>
      clear x0 x1 x2 x3 x4 HT BW2 CBA
      obtain ⟨rfl, x0, x1, x2, x3, x4, HT, HB⟩ := hcut
      go_wp2
      go_loopg [8] (n + 1) (fun kq v8 W => ∃ (b : Nat), v8 = .int .i64 (b : Int) ∧ Aside0 (kq + b = n + 1) ∧ Aside0 (b ≤ n) ∧ W.cell? ⟨w.heap.size, 0, none⟩ = some (.bool m) ∧ W.cell? ⟨w.heap.size, 1, none⟩ = some (.string nm) ∧ W.cell? ⟨w.heap.size, 2, none⟩ = some (.slice A2 n2 c2) ∧ W.cell? ⟨w.heap.size, 3, none⟩ = some (.slice A3 n3 c3) ∧ W.cell? ⟨w.heap.size, 4, none⟩ = some (.slice A4 n c4) ∧ Aside0 (TableAt W g (tabOf cs n)) ∧ Aside0 (Below w.heap.size w W))
      case atStart => exact ⟨0, rfl, ⟨rfl⟩, ⟨Nat.zero_le _⟩, x0, x1, x2, x3, x4, HT, HB⟩
      case round =>
        clear x0 x1 x2 x3 x4 HT HB
        obtain ⟨gk0, rfl⟩ : ∃ g_, g_ = gk := ⟨_, rfl⟩
        obtain ⟨b, rfl, HK, HL2, x0, x1, x2, x3, x4, HT, HB⟩ := hrel
        have hbn := HL2.out
        have hsb := S_mono cs b n hbn
        by_cases hlt : b < n
        · as_aux_lemma =>
          have e1 : S cs (b + 1) = S cs b + cnt cs b := rfl
          have hs1 := S_mono cs (b + 1) n hlt
          have hcn : S cs b + cnt cs b ≤ 1048576 := by omega
          have FIB : Aside0 (∀ W, Below w.heap.size w W → Calls Try.prog 12 #[.agg #[.bool m, .string nm, .slice A2 n2 c2, .slice A3 n3 c3, .slice A4 n c4], .int .i64 (b : Int)] W fun e w' => e = .returned (.int .i64 (S cs b)) ∧ Below W.heap.size W w') := ⟨fun W hB => FIR.out W b hbn hB⟩
          have LB : Aside0 (∀ W, Aside0 (TableAt W g (tabOf cs n)) → Calls Try.prog 13 #[.pointer (some ⟨g, 0, none⟩), .int .i64 (b : Int)] W (Says (.int .i64 (cnt cs b)) W)) := ⟨fun W ht => by
            have := pt_lenx g (tabOf cs n) b (by rw [tabOf_length]; omega) W ht.out
            rw [lenB_tab cs n hbb b hlt] at this
            exact this⟩
          have OF : Aside0 (∀ W (i : Int), Aside0 (TableAt W g (tabOf cs n)) → Calls Try.prog 14 #[.pointer (some ⟨g, 0, none⟩), .int .i64 (b : Int), .int .i64 i] W (Says (.int .i64 (ofB (tabOf cs n) b i)) W)) := ⟨fun W i ht => pt_of g (tabOf cs n) b i (by rw [tabOf_length]; omega) W ht.out⟩
          have O1 : Aside0 (∀ W, Aside0 (TableAt W g (tabOf cs n)) → Calls Try.prog 14 #[.pointer (some ⟨g, 0, none⟩), .int .i64 (b : Int), .int .i64 (cnt cs b : Int)] W (Says (.int .i64 (-1)) W)) := ⟨fun W ht => by
            have := OF.out W (cnt cs b : Int) ht
            rw [ofB_none cs n hbb b hlt _ (by omega)] at this
            exact this⟩
          have O2 : Aside0 (∀ W, Aside0 (TableAt W g (tabOf cs n)) → Calls Try.prog 14 #[.pointer (some ⟨g, 0, none⟩), .int .i64 (b : Int), .int .i64 (-1)] W (Says (.int .i64 (-1)) W)) := ⟨fun W ht => by
            have := OF.out W (-1) ht
            rw [ofB_none cs n hbb b hlt _ (by omega)] at this
            exact this⟩
          have SP : ∀ W, Aside0 (TableAt W g (tabOf cs n)) → _ := fun W ht => pt_span_tab cs n hbb b hlt g W ht.out
          have E1 := Aside0.mk e1
          obtain ⟨ad, s', b', A2', n2', c2', A3', c3', eA, y0, y1, y2, y3⟩ := BKC.out.1 b (by rw [BKC.out.2]; exact hlt)
          clear y0 y1 y2
          subst eA
          replace y3 := (HB.out.cell (World.block_lt_of_cell? w _ y3)).trans y3
          by_cases hc : cnt cs b = 0
          · as_aux_lemma =>
            rw [if_pos hc, if_pos hc] at SP
            have SPA := Aside0.mk SP
            clear SP e1 hs1 hcn
            have z0 : ((0 : Nat) : Int) = 0 := rfl
            rw [hc] at O1 LB y3
            rw [z0] at O1 LB
            go_wp2_with (first | (go_at_call 11; (with_reducible refine (SPA.out _ (by first | assumption | (go_split_ands; assumption))).mono ?_); rintro e w' ⟨rfl, n_, rfl⟩) | (go_at_call 13; (with_reducible refine (LB.out _ (by first | assumption | exact ⟨HT3.out.drewN _⟩)).mono ?_); rintro e w' ⟨rfl, n_, rfl⟩) | (go_at_call 14; (with_reducible refine (O1.out _ (by first | assumption | exact ⟨HT3.out.drewN _⟩)).mono ?_); rintro e w' ⟨rfl, n_, rfl⟩) | (go_at_call 14; (with_reducible refine (O2.out _ (by first | assumption | exact ⟨HT3.out.drewN _⟩)).mono ?_); rintro e w' ⟨rfl, n_, rfl⟩) | (go_at_call 12; (with_reducible refine (FIB.out _ (pw_below_drewN HB.out _)).mono ?_); rintro e w3 ⟨rfl, hb3⟩; have hb4 := below_drews _ hb3; clear hb3; have HT3 : Aside0 (TableAt w3 g (tabOf cs n)) := ⟨HT.out.below hb4⟩))
            go_rounds 1
            go_wp2
            go_roundg (gk0 - 1)
            case measure => have := HK.out; omega
            case rel => exact ⟨b + 1, by go_num, ⟨by have := HK.out; omega⟩, ⟨hlt⟩, ss_to (below_then hb4 hb4.size (pw_below_drewN (Below.refl _ _) _)) x0 x1 x2 x3 x4 HT HB⟩
          · as_aux_lemma =>
            rw [if_neg hc, if_neg hc] at SP
            have hk : 1 ≤ cnt cs b := by omega
            have SPA : Aside0 (∀ W, Aside0 (TableAt W g (tabOf cs n)) → Calls Try.prog 11 #[.pointer (some ⟨g, 0, none⟩), .int .i64 (b : Int)] W (Says (.tuple #[.int .i64 (2 * (S cs b : Int)), .int .i64 (2 * ((S cs b : Int) + (cnt cs b : Int)) - 1)]) W)) := ⟨fun W ht => by
              have := SP W ht
              rw [e1] at this
              exact this⟩
            clear SP e1 hs1 hc
            have f1 : ((cnt cs b : Int) == 0) = false := beq_eq_false_iff_ne.mpr (by omega)
            have f2 : (0 : Int) < (cnt cs b : Int) := by omega
            go_wp2_with (first | (go_at_call 11; (with_reducible refine (SPA.out _ (by first | assumption | (go_split_ands; assumption))).mono ?_); rintro e w' ⟨rfl, n_, rfl⟩) | (go_at_call 13; (with_reducible refine (LB.out _ (by first | assumption | exact ⟨HT3.out.drewN _⟩)).mono ?_); rintro e w' ⟨rfl, n_, rfl⟩) | (go_at_call 14; (with_reducible refine (O1.out _ (by first | assumption | exact ⟨HT3.out.drewN _⟩)).mono ?_); rintro e w' ⟨rfl, n_, rfl⟩) | (go_at_call 14; (with_reducible refine (O2.out _ (by first | assumption | exact ⟨HT3.out.drewN _⟩)).mono ?_); rintro e w' ⟨rfl, n_, rfl⟩) | (go_at_call 12; (with_reducible refine (FIB.out _ (pw_below_drewN HB.out _)).mono ?_); rintro e w3 ⟨rfl, hb3⟩; have hb4 := below_drews _ hb3; clear hb3; have HT3 : Aside0 (TableAt w3 g (tabOf cs n)) := ⟨HT.out.below hb4⟩))
            go_loopg [13] (cnt cs b + 1) (fun kq v13 W => ∃ (i mm : Nat), v13 = .int .i64 (i : Int) ∧ Aside0 (kq + i = cnt cs b + 1) ∧ Aside0 (i ≤ cnt cs b) ∧ W = w3.drewN mm)
            case atStart => exact ⟨0, _, rfl, ⟨rfl⟩, ⟨Nat.zero_le _⟩, rfl⟩
            case round =>
              obtain ⟨i, mm, rfl, HI, HI2, rfl⟩ := hrel
              have hi := HI2.out
              by_cases hil : i < cnt cs b
              · as_aux_lemma =>
                clear f1 f2
                have WH : Aside0 (∀ W, Aside0 (TableAt W g (tabOf cs n)) → Calls Try.prog 15 #[.pointer (some ⟨g, 0, none⟩), .int .i64 ((S cs b : Int) + (i : Int))] W (Says (.tuple #[.int .i64 (b : Int), .int .i64 (i : Int)]) W)) := ⟨fun W ht => by
                  have := where_tab cs n hn hbb b (S cs b + i) hlt (by omega) (by have := E1.out; omega) g W ht.out
                  rw [show (((S cs b + i : Nat)) : Int) - S cs b = (i : Int) by omega, show (((S cs b + i : Nat)) : Int) = (S cs b : Int) + (i : Int) by omega] at this
                  exact this⟩
                have OI : Aside0 (∀ W, Aside0 (TableAt W g (tabOf cs n)) → Calls Try.prog 14 #[.pointer (some ⟨g, 0, none⟩), .int .i64 (b : Int), .int .i64 (i : Int)] W (Says (.int .i64 ((S cs b : Int) + (i : Int))) W)) := ⟨fun W ht => by
                  have := OF.out W (i : Int) ht
                  rw [ofB_tab cs n hbb b hlt _ (by omega) (by omega)] at this
                  exact this⟩
                have AI : Aside0 (∀ W, Aside0 (TableAt W g (tabOf cs n)) → Calls Try.prog 16 #[.pointer (some ⟨g, 0, none⟩), .int .i64 (b : Int), .int .i64 (i : Int)] W (Says (.int .i64 (2 * ((S cs b : Int) + (i : Int)))) W)) := ⟨fun W ht => by
                  have := pt_ahead g (tabOf cs n) b i (by rw [tabOf_length]; omega) W ht.out
                  rw [aheadB_tab cs n hbb b hlt _ (by omega) (by omega)] at this
                  exact this⟩
                have EI : ∀ W, Aside0 (TableAt W g (tabOf cs n)) → _ := fun W ht => pt_behind g (tabOf cs n) b i (by rw [tabOf_length]; omega) W ht.out
                rw [behindB_tab cs n hbb b hlt _ (by omega) (by omega)] at EI
                by_cases hl : (i : Int) = (cnt cs b : Int) - 1
                · as_aux_lemma =>
                  rw [if_pos hl] at EI
                  have EIA := Aside0.mk EI
                  clear EI
                  have f3 : ((i : Int) == (cnt cs b : Int) - 1) = true := beq_iff_eq.mpr hl
                  have HLL := Aside0.mk hl
                  clear hl
                  go_wp2_with (first | (go_at_call 15; (with_reducible refine (WH.out _ (by first | assumption | exact ⟨HT3.out.drewN _⟩)).mono ?_); rintro e w' ⟨rfl, n_, rfl⟩) | (go_at_call 14; (with_reducible refine (OI.out _ (by first | assumption | exact ⟨HT3.out.drewN _⟩)).mono ?_); rintro e w' ⟨rfl, n_, rfl⟩) | (go_at_call 16; (with_reducible refine (AI.out _ (by first | assumption | exact ⟨HT3.out.drewN _⟩)).mono ?_); rintro e w' ⟨rfl, n_, rfl⟩) | (go_at_call 17; (with_reducible refine (EIA.out _ (by first | assumption | exact ⟨HT3.out.drewN _⟩)).mono ?_); rintro e w' ⟨rfl, n_, rfl⟩))
                  go_roundg (gk - 1)
                  case measure => have := HI.out; omega
                  case rel => exact ⟨i + 1, _, by go_num, ⟨by have := HI.out; omega⟩, ⟨hil⟩, rfl⟩
                · as_aux_lemma =>
                  rw [if_neg hl] at EI
                  have EIA := Aside0.mk EI
                  clear EI
                  have f3 : ((i : Int) == (cnt cs b : Int) - 1) = false := beq_eq_false_iff_ne.mpr hl
                  clear hl
                  go_wp2_with (first | (go_at_call 15; (with_reducible refine (WH.out _ (by first | assumption | exact ⟨HT3.out.drewN _⟩)).mono ?_); rintro e w' ⟨rfl, n_, rfl⟩) | (go_at_call 14; (with_reducible refine (OI.out _ (by first | assumption | exact ⟨HT3.out.drewN _⟩)).mono ?_); rintro e w' ⟨rfl, n_, rfl⟩) | (go_at_call 16; (with_reducible refine (AI.out _ (by first | assumption | exact ⟨HT3.out.drewN _⟩)).mono ?_); rintro e w' ⟨rfl, n_, rfl⟩) | (go_at_call 17; (with_reducible refine (EIA.out _ (by first | assumption | exact ⟨HT3.out.drewN _⟩)).mono ?_); rintro e w' ⟨rfl, n_, rfl⟩))
                  go_roundg (gk - 1)
                  case measure => have := HI.out; omega
                  case rel => exact ⟨i + 1, _, by go_num, ⟨by have := HI.out; omega⟩, ⟨hil⟩, rfl⟩
              · go_wp2
                go_roundg (gk0 - 1)
                case measure => have := HK.out; omega
                case rel => exact ⟨b + 1, by go_num, ⟨by have := HK.out; omega⟩, ⟨hlt⟩, ss_to (below_then hb4 hb4.size (pw_below_drewN (Below.refl _ _) _)) x0 x1 x2 x3 x4 HT HB⟩
        · as_aux_lemma =>
          obtain ⟨cw, jw, hcw, hwh⟩ := where_any cs n hn hbb q
          have WQ : Aside0 (∀ W, Aside0 (TableAt W g (tabOf cs n)) → Calls Try.prog 15 #[.pointer (some ⟨g, 0, none⟩), .int .i64 q] W (Says (.tuple #[.int .i64 cw, .int .i64 jw]) W)) := ⟨fun W ht => hwh g W ht.out⟩
          have LQ : Aside0 (∀ W, Aside0 (TableAt W g (tabOf cs n)) → Calls Try.prog 13 #[.pointer (some ⟨g, 0, none⟩), .int .i64 q] W (Says (.int .i64 (lenB (tabOf cs n) q)) W)) := ⟨fun W ht => pt_lenx g (tabOf cs n) q (by rw [tabOf_length]; omega) W ht.out⟩
          have BP : Aside0 (∀ W, Aside0 (TableAt W g (tabOf cs n)) → Calls Try.prog 19 #[.pointer (some ⟨g, 0, none⟩), .int .i64 p] W (Says (.int .i64 (if p4 = true then p1 else -1)) W)) := ⟨fun W ht => block_is cs n hn hbb p _ hp HPQ.out g W ht.out⟩
          have WKA : Aside0 (∀ W, Calls Try.prog 6 #[] W fun e w' => e = .returned (.bool true) ∧ Below W.heap.size W w') := ⟨fun W => pt_works W⟩
          generalize lenB (tabOf cs n) q = lq at *
          have HL3 := Aside0.mk hsb
          clear hwh hsb HL2 HK
          have hcases : (q < 0 ∧ cw = -1 ∧ jw = -1) ∨ (0 ≤ q ∧ (S cs n : Int) ≤ q ∧ cw = -1 ∧ jw = -1) ∨ (0 ≤ q ∧ q < (S cs n : Int)) := by omega
          clear hcw
          go_upto_region 24 with (first | (go_at_call 15; (with_reducible refine (WQ.out _ (by first | assumption | exact ⟨HT.out.drewN _⟩)).mono ?_); rintro e w' ⟨rfl, n_, rfl⟩))
          go_cut [197] (fun v197 W => v197 = .bool false ∧ W.cell? ⟨w.heap.size, 0, none⟩ = some (.bool m) ∧ W.cell? ⟨w.heap.size, 1, none⟩ = some (.string nm) ∧ W.cell? ⟨w.heap.size, 2, none⟩ = some (.slice A2 n2 c2) ∧ W.cell? ⟨w.heap.size, 3, none⟩ = some (.slice A3 n3 c3) ∧ W.cell? ⟨w.heap.size, 4, none⟩ = some (.slice A4 n c4) ∧ Aside0 (TableAt W g (tabOf cs n)) ∧ Aside0 (Below w.heap.size w W))
          case first =>
            as_aux_lemma =>
            rcases hcases with ⟨h1, rfl, rfl⟩ | ⟨h0, h1, rfl, rfl⟩ | ⟨h0, h1⟩
            all_goals
              go_wp2_with (first | (go_at_call 8; (with_reducible refine (CTA.out _ (by first | assumption | exact ⟨HT.out.drewN _⟩)).mono ?_); rintro e w' ⟨rfl, n_, rfl⟩))
              go_meet
              case rel => exact ⟨rfl, ss_to (pw_below_drewN (Below.refl _ _) _) x0 x1 x2 x3 x4 HT HB⟩
          case rest =>
            clear x0 x1 x2 x3 x4 HT HB hcases
            obtain ⟨rfl, x0, x1, x2, x3, x4, HT, HB⟩ := hcut
            cases p4 with
            | true =>
              rw [if_pos rfl] at BP
              go_upto_region 29 with (go_at_call 18; (with_reducible refine (POR.out _ HB.out).mono ?_); rintro e w3 ⟨rfl, hb4⟩; obtain ⟨z0, z1, z2, z3, z4, HT3, HB3⟩ := ss_to hb4 x0 x1 x2 x3 x4 HT HB)
              go_region_held3 (fun W => W.cell? ⟨w.heap.size, 0, none⟩ = some (.bool m) ∧ W.cell? ⟨w.heap.size, 1, none⟩ = some (.string nm) ∧ W.cell? ⟨w.heap.size, 2, none⟩ = some (.slice A2 n2 c2) ∧ W.cell? ⟨w.heap.size, 3, none⟩ = some (.slice A3 n3 c3) ∧ W.cell? ⟨w.heap.size, 4, none⟩ = some (.slice A4 n c4) ∧ Aside0 (TableAt W g (tabOf cs n)) ∧ Aside0 (Below w.heap.size w W)) ((go_split_ands; first | exact ss_to (below_drew (Below.refl _ _)) (by assumption) (by assumption) (by assumption) (by assumption) (by assumption) (by assumption) (by assumption) | exact ss_to (pw_below_drewN (Below.refl _ _) _) (by assumption) (by assumption) (by assumption) (by assumption) (by assumption) (by assumption) (by assumption) | exact ss_to hbS_ (by assumption) (by assumption) (by assumption) (by assumption) (by assumption) (by assumption) (by assumption))) (first | (go_at_call 19; (with_reducible refine (BP.out _ (by first | assumption | (go_split_ands; assumption))).mono ?_); rintro e w' ⟨rfl, n_, rfl⟩) | (go_at_call 13; (with_reducible refine (LQ.out _ (by first | assumption | (go_split_ands; assumption))).mono ?_); rintro e w' ⟨rfl, n_, rfl⟩) | (go_at_call 20; (with_reducible refine (LNR.out _ (by first | exact Aside0.out (by assumption) | (go_split_ands; exact Aside0.out (by assumption)))).mono ?_); rintro e w' ⟨rfl, hbS_⟩) | (go_at_call 6; (with_reducible refine (WKA.out _).mono ?_); rintro e w' ⟨rfl, hbS_⟩))
              all_goals
                go_wp2
                go_ret
                exact ⟨rfl, by go_split_ands; exact Aside0.out (by assumption)⟩
            | false =>
              rw [if_neg (by decide)] at BP
              go_upto_region 29 with (go_at_call 18; (with_reducible refine (POR.out _ HB.out).mono ?_); rintro e w3 ⟨rfl, hb4⟩; obtain ⟨z0, z1, z2, z3, z4, HT3, HB3⟩ := ss_to hb4 x0 x1 x2 x3 x4 HT HB)
              go_region_held3 (fun W => W.cell? ⟨w.heap.size, 0, none⟩ = some (.bool m) ∧ W.cell? ⟨w.heap.size, 1, none⟩ = some (.string nm) ∧ W.cell? ⟨w.heap.size, 2, none⟩ = some (.slice A2 n2 c2) ∧ W.cell? ⟨w.heap.size, 3, none⟩ = some (.slice A3 n3 c3) ∧ W.cell? ⟨w.heap.size, 4, none⟩ = some (.slice A4 n c4) ∧ Aside0 (TableAt W g (tabOf cs n)) ∧ Aside0 (Below w.heap.size w W)) ((go_split_ands; first | exact ss_to (below_drew (Below.refl _ _)) (by assumption) (by assumption) (by assumption) (by assumption) (by assumption) (by assumption) (by assumption) | exact ss_to (pw_below_drewN (Below.refl _ _) _) (by assumption) (by assumption) (by assumption) (by assumption) (by assumption) (by assumption) (by assumption) | exact ss_to hbS_ (by assumption) (by assumption) (by assumption) (by assumption) (by assumption) (by assumption) (by assumption))) (first | (go_at_call 19; (with_reducible refine (BP.out _ (by first | assumption | (go_split_ands; assumption))).mono ?_); rintro e w' ⟨rfl, n_, rfl⟩) | (go_at_call 13; (with_reducible refine (LQ.out _ (by first | assumption | (go_split_ands; assumption))).mono ?_); rintro e w' ⟨rfl, n_, rfl⟩) | (go_at_call 20; (with_reducible refine (LNR.out _ (by first | exact Aside0.out (by assumption) | (go_split_ands; exact Aside0.out (by assumption)))).mono ?_); rintro e w' ⟨rfl, hbS_⟩) | (go_at_call 6; (with_reducible refine (WKA.out _).mono ?_); rintro e w' ⟨rfl, hbS_⟩))
              all_goals
                go_wp2
                go_ret
                exact ⟨rfl, by go_split_ands; exact Aside0.out (by assumption)⟩
end Go.Proofs.Ytafpdjdphdhgkaa.X
