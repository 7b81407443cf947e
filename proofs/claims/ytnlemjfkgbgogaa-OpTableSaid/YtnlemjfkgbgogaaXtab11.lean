/- The statement OpTable, walked: one case. -/
import Derived.Test.YtnlemjfkgbgogaaXtabp
namespace Go.Proofs.Ytnlemjfkgbgogaa.Tbl
open Go.RowKit Go.Proofs.Ytnlemjfkgbgogaa.P Go.Proofs.YtnlemjfkgbgogaaW.PrintWords Go.Proofs.YtnlemjfkgbgogaaW.PrintLast Go.Proofs.YtnlemjfkgbgogaaW.PrintMore
set_option linter.unusedVariables false
set_option linter.unusedSimpArgs false
set_option maxHeartbeats 4000000 in
set_option maxRecDepth 100000 in
theorem table_in11 (n c : Int) (h1 : 0 ≤ c) (h2 : c ≤ 4096) (nm dst : ByteArray) (args : List ByteArray) (lb : Int) (al ok : Bool) (hT : Tb n nm dst args lb al ok) (hd : dst ≠ ⟨#[]⟩) (hn : 20 ≤ n) (w : World) : Calls Try.prog 3 #[.int .i64 n, .int .i64 c] w fun e w' => e = .returned (.bool true) ∧ Below w.heap.size w w' := by
  have FI : Aside0 (∀ W, Calls Try.prog 7 #[.int .i64 n] W fun e w' => ∃ v2_ : Value, e = .returned (.tuple #[.agg #[.string nm, .string dst, v2_, .int .i64 lb, .bool al], .bool ok]) ∧ Kd.R Kd.string 9 w' W.heap.size (fun _ => True) v2_ args ∧ Below W.heap.size W w') := ⟨fun W => dyehouseref11_Find.calls 64 n nm dst args lb al ok W hT.find⟩
  have AR : Aside0 (∀ W, Calls Try.prog 8 #[.int .i64 n] W fun e w' => e = .returned (.tuple #[.int .i64 (if n = 19 then 0 else (args.length : Int)), .int .i64 (args.length : Int)]) ∧ Below W.heap.size W w') := ⟨fun W => op_Args.calls n _ _ W (by unfold op_Args.f; rw [← hT.args1, ← hT.args2])⟩
  have GI : Aside0 (∀ W, Calls Try.prog 9 #[.int .i64 n] W fun e w' => e = .returned (.tuple #[.bool (decide (dst ≠ ⟨#[]⟩ ∧ n ≠ 19)), .bool (decide (dst ≠ ⟨#[]⟩))]) ∧ Below W.heap.size W w') := ⟨fun W => op_Gives.calls n _ _ W (by unfold op_Gives.f; rw [hT.must, hT.may])⟩
  have IS : Aside0 (∀ W, Calls Try.prog 10 #[.int .i64 n] W fun e w' => e = .returned (.bool ok) ∧ Below W.heap.size W w') := ⟨fun W => op_Is.calls n _ W (by unfold op_Is.f; rw [hT.is])⟩
  have NM : Aside0 (∀ W, Calls Try.prog 11 #[.int .i64 n] W fun e w' => e = .returned (.string nm) ∧ Below W.heap.size W w') := ⟨fun W => op_Name.calls n _ W (by unfold op_Name.f; rw [hT.nm])⟩
  have MC : Aside0 (∀ W, Calls Try.prog 12 #[.int .i64 n] W fun e w' => e = .returned (.bool al) ∧ Below W.heap.size W w') := ⟨fun W => op_Machine.calls n _ W (by unfold op_Machine.f; rw [hT.mc])⟩
  have LA : Aside0 (∀ W, Calls Try.prog 13 #[.int .i64 n] W fun e w' => e = .returned (.bool (decide (20 ≤ n ∧ n ≤ 23))) ∧ Below W.heap.size W w') := ⟨fun W => (op_Last.calls n _ W (by
    unfold op_Last.f
    by_cases h : n ≥ 20
    · rw [if_pos h]
      congr 1
      exact decide_eq_decide.mpr ⟨fun h3 => ⟨h, h3⟩, fun h3 => h3.2⟩
    · rw [if_neg h]
      congr 1
      exact (decide_eq_false (fun h3 => h h3.1)).symm)).mono fun e w' ⟨he, hd⟩ => ⟨he, by obtain ⟨k, rfl⟩ := hd.out; exact pw_below_drewN (Below.refl _ _) k⟩⟩
  obtain ⟨lv, hlv⟩ : ∃ lv, lv = if lb < 0 then c + 1 else lb := ⟨_, rfl⟩
  have LB : Aside0 (∀ W, Calls Try.prog 14 #[.int .i64 n, .int .i64 c] W fun e w' => e = .returned (.int .i64 lv) ∧ Below W.heap.size W w') := ⟨fun W => op_Labels.calls n c _ W (by
    unfold op_Labels.f
    rw [hT.lb, hlv, show wrap64 (c + 1) = c + 1 by unfold wrap64; omega])⟩
  have WK : Aside0 (∀ W, Calls Try.prog 6 #[] W fun e w' => e = .returned (.bool true) ∧ Below W.heap.size W w') := ⟨works_c⟩
  obtain ⟨mu, hmu⟩ : ∃ mu, mu = decide (dst ≠ ⟨#[]⟩ ∧ n ≠ 19) := ⟨_, rfl⟩
  obtain ⟨ma, hma⟩ : ∃ ma, ma = decide (dst ≠ ⟨#[]⟩) := ⟨_, rfl⟩
  obtain ⟨la, hla⟩ : ∃ la, la = decide (20 ≤ n ∧ n ≤ 23) := ⟨_, rfl⟩
  obtain ⟨wv, hwv⟩ : ∃ wv, wv = if n = 19 then 0 else (args.length : Int) := ⟨_, rfl⟩
  rw [← hmu, ← hma] at GI
  rw [← hla] at LA
  rw [← hwv] at AR
  have HLV := Aside0.mk hlv
  have HMU := Aside0.mk hmu
  have HMA := Aside0.mk hma
  have HLA := Aside0.mk hla
  have HWV := Aside0.mk hwv
  have hlen := hT.args2
  have hlen8 : (args.length : Int) ≤ 8 := by
    have : (X.argsOf n).2 ≤ 8 := by
      unfold X.argsOf
      split
      · decide
      · split
        · decide
        · split
          · decide
          · split <;> decide
    omega
  clear hT hlv hlen hmu hma hla hwv
  generalize hL : args.length = ln at *
  have HLN := Aside0.mk hL
  clear hL
  have hu25 := Try.underlying25
  have HD := Aside0.mk hd
  clear hd
  go_enter Try.func3, Try.ntmps3
  go_upto_region 6 with (first | (go_at_call 7; (with_reducible refine (FI.out _).mono ?_); rintro e w1 ⟨v2, rfl, ho, hb1⟩; obtain ⟨Ao, co, hv2⟩ := Kd.R_slice ho; rw [HLN.out] at hv2; subst hv2; clear ho; have HB1 := Aside0.mk hb1; clear hb1) | (go_at_call 8; (with_reducible refine (AR.out _).mono ?_); rintro e w2 ⟨rfl, hb2⟩) | (go_at_call 9; (with_reducible refine (GI.out _).mono ?_); rintro e w3 ⟨rfl, hb3⟩))
  have hx := blk_below (blk_below (heap_alloc_new w1 _) hb2) hb3
  have HB : Aside0 (Below w.heap.size w w3) := ⟨below_step (below_step (below_alloc HB1.out _) hb2) hb3⟩
  have x0 : _ = some (Value.string nm) := blk_cell hx 0
  have x1 : _ = some (Value.string dst) := blk_cell hx 1
  have x2 : _ = some (Value.slice Ao ln co) := blk_cell hx 2
  have x3 : _ = some (Value.int .i64 lb) := blk_cell hx 3
  have x4 : _ = some (Value.bool al) := blk_cell hx 4
  clear hx hb2 hb3 HB1 FI AR GI
  generalize w1.heap.size = gb at *
  go_upto_if 38 with (fail)
  go_cut [11] (fun v11 W => v11 = .int .i64 lv ∧ W.cell? ⟨gb, 0, none⟩ = some (.string nm) ∧ W.cell? ⟨gb, 1, none⟩ = some (.string dst) ∧ W.cell? ⟨gb, 2, none⟩ = some (.slice Ao ln co) ∧ W.cell? ⟨gb, 3, none⟩ = some (.int .i64 lb) ∧ W.cell? ⟨gb, 4, none⟩ = some (.bool al) ∧ Aside0 (Below w.heap.size w W))
  case first =>
    as_aux_lemma =>
    by_cases h3 : lb < 0
    · have e3 := HLV.out
      rw [if_pos h3] at e3
      subst e3
      go_wp2
      go_meet
      case rel => exact ⟨by go_num, ss_to (Below.refl _ _) x0 x1 x2 x3 x4 HB⟩
    · have e3 := HLV.out
      rw [if_neg h3] at e3
      subst e3
      go_wp2
      go_meet
      case rel => exact ⟨by go_num, ss_to (Below.refl _ _) x0 x1 x2 x3 x4 HB⟩
  case rest =>
    clear x0 x1 x2 x3 x4 HB
    obtain ⟨rfl, x0, x1, x2, x3, x4, HB⟩ := hcut
    go_upto_if 45 with (fail)
    go_cut [12] (fun v12 W => v12 = .int .i64 wv ∧ W.cell? ⟨gb, 0, none⟩ = some (.string nm) ∧ W.cell? ⟨gb, 1, none⟩ = some (.string dst) ∧ W.cell? ⟨gb, 2, none⟩ = some (.slice Ao ln co) ∧ W.cell? ⟨gb, 3, none⟩ = some (.int .i64 lb) ∧ W.cell? ⟨gb, 4, none⟩ = some (.bool al) ∧ Aside0 (Below w.heap.size w W))
    case first =>
      as_aux_lemma =>
      have e4 := HWV.out
      rw [if_neg (show ¬ n = 19 by omega)] at e4
      subst e4
      go_wp2
      go_meet
      case rel => exact ⟨by go_num, ss_to (Below.refl _ _) x0 x1 x2 x3 x4 HB⟩
    case rest =>
      clear x0 x1 x2 x3 x4 HB
      obtain ⟨rfl, x0, x1, x2, x3, x4, HB⟩ := hcut
      have hd := HD.out
      have ec : (dst.toList == ([] : List UInt8)) = false := empty_bne dst hd
      have en : (dst.toList != ([] : List UInt8)) = true := by rw [bne, ec]; rfl
      have ema : ma = true := HMA.out.trans (by simp [hd])
      subst ema
      have emu : mu = true := HMU.out.trans (decide_eq_true ⟨hd, by omega⟩)
      subst emu
      have ela : la = decide (n ≤ 23) := HLA.out.trans (decide_eq_decide.mpr ⟨fun h => h.2, fun h => ⟨hn, h⟩⟩)
      subst ela
      have h19 : (n != 19) = true := bne_iff_ne.mpr (by omega)
      clear HMU HMA HLA HWV HLV HLN HD hd
      go_upto_region 12 with (fail)
      simp only [List.append_eq, List.cons_append, List.nil_append]
      go_region_held3 (fun W => W.cell? ⟨gb, 0, none⟩ = some (.string nm) ∧ W.cell? ⟨gb, 1, none⟩ = some (.string dst) ∧ W.cell? ⟨gb, 2, none⟩ = some (.slice Ao ln co) ∧ W.cell? ⟨gb, 3, none⟩ = some (.int .i64 lb) ∧ W.cell? ⟨gb, 4, none⟩ = some (.bool al) ∧ Aside0 (Below w.heap.size w W)) ((go_split_ands; first | exact ss_to (below_drew (Below.refl _ _)) (by assumption) (by assumption) (by assumption) (by assumption) (by assumption) (by assumption) | exact ss_to (pw_below_drewN (Below.refl _ _) _) (by assumption) (by assumption) (by assumption) (by assumption) (by assumption) (by assumption) | exact ss_to hbS_ (by assumption) (by assumption) (by assumption) (by assumption) (by assumption) (by assumption))) (first | (go_at_call 10; (with_reducible refine (IS.out _).mono ?_); rintro e w' ⟨rfl, hbS_⟩) | (go_at_call 11; (with_reducible refine (NM.out _).mono ?_); rintro e w' ⟨rfl, hbS_⟩) | (go_at_call 12; (with_reducible refine (MC.out _).mono ?_); rintro e w' ⟨rfl, hbS_⟩) | (go_at_call 13; (with_reducible refine (LA.out _).mono ?_); rintro e w' ⟨rfl, hbS_⟩) | (go_at_call 14; (with_reducible refine (LB.out _).mono ?_); rintro e w' ⟨rfl, hbS_⟩) | (go_at_call 6; (with_reducible refine (WK.out _).mono ?_); rintro e w' ⟨rfl, hbS_⟩))
      all_goals
        go_wp2
        go_ret
        exact ⟨rfl, by go_split_ands; exact Aside0.out (by assumption)⟩
end Go.Proofs.Ytnlemjfkgbgogaa.Tbl
