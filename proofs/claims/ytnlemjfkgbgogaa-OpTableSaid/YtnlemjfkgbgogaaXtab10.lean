/- The statement OpTable, walked: one case. -/
import Derived.Test.YtnlemjfkgbgogaaXtabp
namespace Go.Proofs.Ytnlemjfkgbgogaa.Tbl
open Go.RowKit Go.Proofs.Ytnlemjfkgbgogaa.P Go.Proofs.YtnlemjfkgbgogaaW.PrintWords Go.Proofs.YtnlemjfkgbgogaaW.PrintLast Go.Proofs.YtnlemjfkgbgogaaW.PrintMore
set_option linter.unusedVariables false
set_option linter.unusedSimpArgs false
set_option maxHeartbeats 4000000 in
set_option maxRecDepth 100000 in
theorem table_in10 (n c : Int) (h1 : 0 ≤ c) (h2 : c ≤ 4096) (nm dst : ByteArray) (args : List ByteArray) (lb : Int) (al ok : Bool) (hT : Tb n nm dst args lb al ok) (hd : dst ≠ ⟨#[]⟩) (hn : n < 20) (w : World) : Calls Try.prog 3 #[.int .i64 n, .int .i64 c] w fun e w' => e = .returned (.bool true) ∧ Below w.heap.size w w' := by
  have FI : Aside0 (∀ W, Calls Try.prog 7 #[.int .i64 n] W fun e w' => ∃ v2_ : Value, e = .returned (.tuple #[.agg #[.string nm, .string dst, v2_, .int .i64 lb, .bool al], .bool ok]) ∧ Kd.R Kd.string 9 w' W.heap.size (fun _ => True) v2_ args ∧ Below W.heap.size W w') := ⟨fun W => dyehouseref11_Find.calls 64 n nm dst args lb al ok W hT.find⟩
  have AR : Aside0 (∀ W, Calls Try.prog 8 #[.int .i64 n] W fun e w' => e = .returned (.tuple #[.int .i64 (if n = 19 then 0 else (args.length : Int)), .int .i64 (args.length : Int)]) ∧ Below W.heap.size W w') := ⟨fun W => op_Args.calls n _ _ W (by unfold op_Args.f; rw [← hT.args1, ← hT.args2])⟩
  have GI : Aside0 (∀ W, Calls Try.prog 9 #[.int .i64 n] W fun e w' => e = .returned (.tuple #[.bool (decide (dst ≠ ⟨#[]⟩ ∧ n ≠ 19)), .bool (decide (dst ≠ ⟨#[]⟩))]) ∧ Below W.heap.size W w') := ⟨fun W => op_Gives.calls n _ _ W (by unfold op_Gives.f; rw [hT.must, hT.may])⟩
  have IS : Aside0 (∀ W, Calls Try.prog 10 #[.int .i64 n] W fun e w' => e = .returned (.bool ok) ∧ Below W.heap.size W w') := ⟨fun W => op_Is.calls n _ W (by unfold op_Is.f; rw [hT.is])⟩
  have NM : Aside0 (∀ W, Calls Try.prog 11 #[.int .i64 n] W fun e w' => e = .returned (.string nm) ∧ Below W.heap.size W w') := ⟨fun W => op_Name.calls n _ W (by unfold op_Name.f; rw [hT.nm])⟩
  have MC : Aside0 (∀ W, Calls Try.prog 12 #[.int .i64 n] W fun e w' => e = .returned (.bool al) ∧ Below W.heap.size W w') := ⟨fun W => op_Machine.calls n _ W (by unfold op_Machine.f; rw [hT.mc])⟩
  have LA : Aside0 (∀ W, Calls Try.prog 13 #[.int .i64 n] W fun e w' => e = .returned (.bool (decide (20 ≤ n ∧ n ≤ 23))) ∧ Below W.heap.size W w') := ⟨fun W => (op_Last.calls n _ W (by
    unfold op_Last.f
    by_cases h : n ≥ 20
    · rw [if_pos h]
      congr 1
      exact decide_eq_decide.mpr ⟨fun h3 => ⟨h, h3⟩, fun h3 => h3.2⟩
    · rw [if_neg h]
      congr 1
      exact (decide_eq_false (fun h3 => h h3.1)).symm)).mono fun e w' ⟨he, hd⟩ => ⟨he, by obtain ⟨k, rfl⟩ := hd.out; exact pw_below_drewN (Below.refl _ _) k⟩⟩
  obtain ⟨lv, hlv⟩ : ∃ lv, lv = if lb < 0 then c + 1 else lb := ⟨_, rfl⟩
  have LB : Aside0 (∀ W, Calls Try.prog 14 #[.int .i64 n, .int .i64 c] W fun e w' => e = .returned (.int .i64 lv) ∧ Below W.heap.size W w') := ⟨fun W => op_Labels.calls n c _ W (by
    unfold op_Labels.f
    rw [hT.lb, hlv, show wrap64 (c + 1) = c + 1 by unfold wrap64; omega])⟩
  have WK : Aside0 (∀ W, Calls Try.prog 6 #[] W fun e w' => e = .returned (.bool true) ∧ Below W.heap.size W w') := ⟨works_c⟩
  obtain ⟨mu, hmu⟩ : ∃ mu, mu = decide (dst ≠ ⟨#[]⟩ ∧ n ≠ 19) := ⟨_, rfl⟩
  obtain ⟨ma, hma⟩ : ∃ ma, ma = decide (dst ≠ ⟨#[]⟩) := ⟨_, rfl⟩
  obtain ⟨la, hla⟩ : ∃ la, la = decide (20 ≤ n ∧ n ≤ 23) := ⟨_, rfl⟩
  obtain ⟨wv, hwv⟩ : ∃ wv, wv = if n = 19 then 0 else (args.length : Int) := ⟨_, rfl⟩
  rw [← hmu, ← hma] at GI
  rw [← hla] at LA
  rw [← hwv] at AR
  have HLV := Aside0.mk hlv
  have HMU := Aside0.mk hmu
  have HMA := Aside0.mk hma
  have HLA := Aside0.mk hla
  have HWV := Aside0.mk hwv
  have hlen := hT.args2
  have hlen8 : (args.length : Int) ≤ 8 := by
    have : (X.argsOf n).2 ≤ 8 := by
      unfold X.argsOf
      split
      · decide
      · split
        · decide
        · split
          · decide
          · split <;> decide
    omega
  clear hT hlv hlen hmu hma hla hwv
  generalize hL : args.length = ln at *
  have HLN := Aside0.mk hL
  clear hL
  have hu25 := Try.underlying25
  have HD := Aside0.mk hd
  clear hd
  go_enter Try.func3, Try.ntmps3
  go_upto_region 6 with (first | (go_at_call 7; (with_reducible refine (FI.out _).mono ?_); rintro e w1 ⟨v2, rfl, ho, hb1⟩; obtain ⟨Ao, co, hv2⟩ := Kd.R_slice ho; rw [HLN.out] at hv2; subst hv2; clear ho; have HB1 := Aside0.mk hb1; clear hb1) | (go_at_call 8; (with_reducible refine (AR.out _).mono ?_); rintro e w2 ⟨rfl, hb2⟩) | (go_at_call 9; (with_reducible refine (GI.out _).mono ?_); rintro e w3 ⟨rfl, hb3⟩))
  have hx := blk_below (blk_below (heap_alloc_new w1 _) hb2) hb3
  have HB : Aside0 (Below w.heap.size w w3) := ⟨below_step (below_step (below_alloc HB1.out _) hb2) hb3⟩
  have x0 : _ = some (Value.string nm) := blk_cell hx 0
  have x1 : _ = some (Value.string dst) := blk_cell hx 1
  have x2 : _ = some (Value.slice Ao ln co) := blk_cell hx 2
  have x3 : _ = some (Value.int .i64 lb) := blk_cell hx 3
  have x4 : _ = some (Value.bool al) := blk_cell hx 4
  clear hx hb2 hb3 HB1 FI AR GI
  generalize w1.heap.size = gb at *
  go_upto_if 38 with (fail)
  go_cut [11] (fun v11 W => v11 = .int .i64 lv ∧ W.cell? ⟨gb, 0, none⟩ = some (.string nm) ∧ W.cell? ⟨gb, 1, none⟩ = some (.string dst) ∧ W.cell? ⟨gb, 2, none⟩ = some (.slice Ao ln co) ∧ W.cell? ⟨gb, 3, none⟩ = some (.int .i64 lb) ∧ W.cell? ⟨gb, 4, none⟩ = some (.bool al) ∧ Aside0 (Below w.heap.size w W))
  case first =>
    as_aux_lemma =>
    by_cases h3 : lb < 0
    · have e3 := HLV.out
      rw [if_pos h3] at e3
      subst e3
      go_wp2
      go_meet
      case rel => exact ⟨by go_num, ss_to (Below.refl _ _) x0 x1 x2 x3 x4 HB⟩
    · have e3 := HLV.out
      rw [if_neg h3] at e3
      subst e3
      go_wp2
      go_meet
      case rel => exact ⟨by go_num, ss_to (Below.refl _ _) x0 x1 x2 x3 x4 HB⟩
  case rest =>
    clear x0 x1 x2 x3 x4 HB
    obtain ⟨rfl, x0, x1, x2, x3, x4, HB⟩ := hcut
    go_upto_if 45 with (fail)
    go_cut [12] (fun v12 W => v12 = .int .i64 wv ∧ W.cell? ⟨gb, 0, none⟩ = some (.string nm) ∧ W.cell? ⟨gb, 1, none⟩ = some (.string dst) ∧ W.cell? ⟨gb, 2, none⟩ = some (.slice Ao ln co) ∧ W.cell? ⟨gb, 3, none⟩ = some (.int .i64 lb) ∧ W.cell? ⟨gb, 4, none⟩ = some (.bool al) ∧ Aside0 (Below w.heap.size w W))
    case first =>
      as_aux_lemma =>
      have e4 := HWV.out
      by_cases h3 : n = 19
      · rw [if_pos h3] at e4
        subst e4
        go_wp2
        go_meet
        case rel => exact ⟨by go_num, ss_to (Below.refl _ _) x0 x1 x2 x3 x4 HB⟩
      · rw [if_neg h3] at e4
        subst e4
        go_wp2
        go_meet
        case rel => exact ⟨by go_num, ss_to (Below.refl _ _) x0 x1 x2 x3 x4 HB⟩
    case rest =>
      clear x0 x1 x2 x3 x4 HB
      obtain ⟨rfl, x0, x1, x2, x3, x4, HB⟩ := hcut
      have hd := HD.out
      have ec : (dst.toList == ([] : List UInt8)) = false := empty_bne dst hd
      have en : (dst.toList != ([] : List UInt8)) = true := by rw [bne, ec]; rfl
      have ema : ma = true := HMA.out.trans (by simp [hd])
      subst ema
      obtain ⟨b19, e19⟩ : ∃ b, (n != 19) = b := ⟨_, rfl⟩
      have emu : mu = b19 := HMU.out.trans (by rw [← e19, Bool.eq_iff_iff]; simp [hd])
      subst emu
      have ela : la = false := HLA.out.trans (decide_eq_false (by omega))
      subst ela
      have h20 : decide (20 ≤ n) = false := decide_eq_false (by omega)
      clear hn
      clear HMU HMA HLA HWV HLV HLN HD hd
      go_upto_region 12 with (fail)
      simp only [List.append_eq, List.cons_append, List.nil_append]
      refine wp_region_held_drew (S := (fun W => W.cell? ⟨gb, 0, none⟩ = some (.string nm) ∧ W.cell? ⟨gb, 1, none⟩ = some (.string dst) ∧ W.cell? ⟨gb, 2, none⟩ = some (.slice Ao ln co) ∧ W.cell? ⟨gb, 3, none⟩ = some (.int .i64 lb) ∧ W.cell? ⟨gb, 4, none⟩ = some (.bool al) ∧ Aside0 (Below w.heap.size w W))) (by kernel_rfl) ?_ (fun hHeld => ?_)
      · (try dsimp only); ((go_split_ands; first | exact ss_to (below_drew (Below.refl _ _)) (by assumption) (by assumption) (by assumption) (by assumption) (by assumption) (by assumption) | exact ss_to (pw_below_drewN (Below.refl _ _) _) (by assumption) (by assumption) (by assumption) (by assumption) (by assumption) (by assumption) | exact ss_to hbS_ (by assumption) (by assumption) (by assumption) (by assumption) (by assumption) (by assumption) | exact ss_to (Below.refl _ _) (by assumption) (by assumption) (by assumption) (by assumption) (by assumption) (by assumption)))
      first
        | (refine wpAnyH_take (i := 0) (oi := { dst := some 46, op := Op.move (Operand.tmp 0), type := 3, pos := "law.go:33", after := #[], guard := none }) (v := ?_) rfl (by kernel_rfl) (by kernel_rfl) (by kernel_rfl) (fun _ _ _ h => h) (Or.inl ⟨by rfl, ?_⟩) (by assumption) ?_; rotate_left; focus (intro w hSw; (try dsimp only at hSw); go_simp; (try with_reducible rfl)))
        | refine wpAnyH_take (i := 0) (oi := { dst := some 46, op := Op.move (Operand.tmp 0), type := 3, pos := "law.go:33", after := #[], guard := none }) (v := undef) rfl (by kernel_rfl) (by kernel_rfl) (by kernel_rfl) (fun _ _ _ h => h) (Or.inr ⟨by rfl, rfl⟩) (by assumption) ?_
      try simp only [Act.put, List.setIfInBounds_toArray, List.set_cons_zero, List.set_cons_succ]
      first
        | (refine wpAnyH_take (i := 2) (oi := { dst := some 48, op := Op.move (Operand.tmp 6), type := 4, pos := "law.go:33", after := #[], guard := none }) (v := ?_) rfl (by kernel_rfl) (by kernel_rfl) (by kernel_rfl) (fun _ _ _ h => h) (Or.inl ⟨by rfl, ?_⟩) (by assumption) ?_; rotate_left; focus (intro w hSw; (try dsimp only at hSw); go_simp; (try with_reducible rfl)))
        | refine wpAnyH_take (i := 2) (oi := { dst := some 48, op := Op.move (Operand.tmp 6), type := 4, pos := "law.go:33", after := #[], guard := none }) (v := undef) rfl (by kernel_rfl) (by kernel_rfl) (by kernel_rfl) (fun _ _ _ h => h) (Or.inr ⟨by rfl, rfl⟩) (by assumption) ?_
      try simp only [Act.put, List.setIfInBounds_toArray, List.set_cons_zero, List.set_cons_succ]
      refine wpAnyH_ready (rs := [1]) (by kernel_rfl) (by simp) ?_
      refine AllReadyH.cons (o := { dst := some 47, op := Op.call { callee := Callee.value (Operand.func 10), args := #[Operand.tmp 46], argTypes := #[3] }, type := 4, pos := "law.go:33", after := #[{ on := 0, ground := Ground.data }], guard := none }) rfl (fun K hK => ?_) AllReadyH.nil
      go_simp
      (first | (go_at_call 10; (with_reducible refine (IS.out _).mono ?_); rintro e w' ⟨rfl, hbS_⟩) | (go_at_call 11; (with_reducible refine (NM.out _).mono ?_); rintro e w' ⟨rfl, hbS_⟩) | (go_at_call 12; (with_reducible refine (MC.out _).mono ?_); rintro e w' ⟨rfl, hbS_⟩) | (go_at_call 13; (with_reducible refine (LA.out _).mono ?_); rintro e w' ⟨rfl, hbS_⟩) | (go_at_call 14; (with_reducible refine (LB.out _).mono ?_); rintro e w' ⟨rfl, hbS_⟩) | (go_at_call 6; (with_reducible refine (WK.out _).mono ?_); rintro e w' ⟨rfl, hbS_⟩))
      refine hK.out _ _ ?_ (fun hHeld1 => ?_)
      · (try dsimp only); ((go_split_ands; first | exact ss_to (below_drew (Below.refl _ _)) (by assumption) (by assumption) (by assumption) (by assumption) (by assumption) (by assumption) | exact ss_to (pw_below_drewN (Below.refl _ _) _) (by assumption) (by assumption) (by assumption) (by assumption) (by assumption) (by assumption) | exact ss_to hbS_ (by assumption) (by assumption) (by assumption) (by assumption) (by assumption) (by assumption) | exact ss_to (Below.refl _ _) (by assumption) (by assumption) (by assumption) (by assumption) (by assumption) (by assumption)))
      clear hK K hHeld
      try simp only [Act.put, List.setIfInBounds_toArray, List.set_cons_zero, List.set_cons_succ]
      first
        | (refine wpAnyH_take (i := 3) (oi := { dst := some 49, op := Op.binOp BinOp.eql 4 (Operand.tmp 47) (Operand.tmp 48) 4, type := 4, pos := "law.go:33", after := #[{ on := 1, ground := Ground.data }, { on := 2, ground := Ground.data }], guard := none }) (v := ?_) rfl (by kernel_rfl) (by kernel_rfl) (by kernel_rfl) (fun _ _ _ h => h) (Or.inl ⟨by rfl, ?_⟩) (by assumption) ?_; rotate_left; focus (intro w hSw; (try dsimp only at hSw); go_simp; (try with_reducible rfl)))
        | refine wpAnyH_take (i := 3) (oi := { dst := some 49, op := Op.binOp BinOp.eql 4 (Operand.tmp 47) (Operand.tmp 48) 4, type := 4, pos := "law.go:33", after := #[{ on := 1, ground := Ground.data }, { on := 2, ground := Ground.data }], guard := none }) (v := undef) rfl (by kernel_rfl) (by kernel_rfl) (by kernel_rfl) (fun _ _ _ h => h) (Or.inr ⟨by rfl, rfl⟩) (by assumption) ?_
      try simp only [Act.put, List.setIfInBounds_toArray, List.set_cons_zero, List.set_cons_succ]
      first
        | (refine wpAnyH_take (i := 4) (oi := { dst := some 50, op := Op.move (Operand.tmp 49), type := 4, pos := "law.go:33", after := #[{ on := 3, ground := Ground.data }, { on := 1, ground := Ground.chain }], guard := none }) (v := ?_) rfl (by kernel_rfl) (by kernel_rfl) (by kernel_rfl) (fun _ _ _ h => h) (Or.inl ⟨by rfl, ?_⟩) (by assumption) ?_; rotate_left; focus (intro w hSw; (try dsimp only at hSw); go_simp; (try with_reducible rfl)))
        | refine wpAnyH_take (i := 4) (oi := { dst := some 50, op := Op.move (Operand.tmp 49), type := 4, pos := "law.go:33", after := #[{ on := 3, ground := Ground.data }, { on := 1, ground := Ground.chain }], guard := none }) (v := undef) rfl (by kernel_rfl) (by kernel_rfl) (by kernel_rfl) (fun _ _ _ h => h) (Or.inr ⟨by rfl, rfl⟩) (by assumption) ?_
      try simp only [Act.put, List.setIfInBounds_toArray, List.set_cons_zero, List.set_cons_succ]
      first
        | (refine wpAnyH_take (i := 5) (oi := { dst := some 51, op := Op.move (Operand.tmp 0), type := 3, pos := "law.go:33", after := #[{ on := 4, ground := Ground.guard }], guard := some (4, true) }) (v := ?_) rfl (by kernel_rfl) (by kernel_rfl) (by kernel_rfl) (fun _ _ _ h => h) (Or.inl ⟨by rfl, ?_⟩) (by assumption) ?_; rotate_left; focus (intro w hSw; (try dsimp only at hSw); go_simp; (try with_reducible rfl)))
        | refine wpAnyH_take (i := 5) (oi := { dst := some 51, op := Op.move (Operand.tmp 0), type := 3, pos := "law.go:33", after := #[{ on := 4, ground := Ground.guard }], guard := some (4, true) }) (v := undef) rfl (by kernel_rfl) (by kernel_rfl) (by kernel_rfl) (fun _ _ _ h => h) (Or.inr ⟨by rfl, rfl⟩) (by assumption) ?_
      try simp only [Act.put, List.setIfInBounds_toArray, List.set_cons_zero, List.set_cons_succ]
      first
        | (refine wpAnyH_take (i := 7) (oi := { dst := some 53, op := Op.fieldAddr 25 (Operand.tmp 5) 0, type := 0, pos := "law.go:33", after := #[{ on := 4, ground := Ground.guard }], guard := some (4, true) }) (v := ?_) rfl (by kernel_rfl) (by kernel_rfl) (by kernel_rfl) (fun _ _ _ h => h) (Or.inl ⟨by rfl, ?_⟩) (by assumption) ?_; rotate_left; focus (intro w hSw; (try dsimp only at hSw); go_simp; (try with_reducible rfl)))
        | refine wpAnyH_take (i := 7) (oi := { dst := some 53, op := Op.fieldAddr 25 (Operand.tmp 5) 0, type := 0, pos := "law.go:33", after := #[{ on := 4, ground := Ground.guard }], guard := some (4, true) }) (v := undef) rfl (by kernel_rfl) (by kernel_rfl) (by kernel_rfl) (fun _ _ _ h => h) (Or.inr ⟨by rfl, rfl⟩) (by assumption) ?_
      try simp only [Act.put, List.setIfInBounds_toArray, List.set_cons_zero, List.set_cons_succ]
      first
        | (refine wpAnyH_take (i := 8) (oi := { dst := some 54, op := Op.load 9 (Operand.tmp 53), type := 9, pos := "law.go:33", after := #[{ on := 7, ground := Ground.data }, { on := 4, ground := Ground.guard }], guard := some (4, true) }) (v := ?_) rfl (by kernel_rfl) (by kernel_rfl) (by kernel_rfl) (fun _ _ _ h => h) (Or.inl ⟨by rfl, ?_⟩) (by assumption) ?_; rotate_left; focus (intro w hSw; (try dsimp only at hSw); go_simp; (try with_reducible rfl)))
        | refine wpAnyH_take (i := 8) (oi := { dst := some 54, op := Op.load 9 (Operand.tmp 53), type := 9, pos := "law.go:33", after := #[{ on := 7, ground := Ground.data }, { on := 4, ground := Ground.guard }], guard := some (4, true) }) (v := undef) rfl (by kernel_rfl) (by kernel_rfl) (by kernel_rfl) (fun _ _ _ h => h) (Or.inr ⟨by rfl, rfl⟩) (by assumption) ?_
      try simp only [Act.put, List.setIfInBounds_toArray, List.set_cons_zero, List.set_cons_succ]
      refine wpAnyH_ready (rs := [6]) (by kernel_rfl) (by simp) ?_
      refine AllReadyH.cons (o := { dst := some 52, op := Op.call { callee := Callee.value (Operand.func 11), args := #[Operand.tmp 51], argTypes := #[3] }, type := 9, pos := "law.go:33", after := #[{ on := 5, ground := Ground.data }, { on := 4, ground := Ground.chain }, { on := 4, ground := Ground.guard }], guard := some (4, true) }) rfl (fun K hK => ?_) AllReadyH.nil
      go_simp
      (first | (go_at_call 10; (with_reducible refine (IS.out _).mono ?_); rintro e w' ⟨rfl, hbS_⟩) | (go_at_call 11; (with_reducible refine (NM.out _).mono ?_); rintro e w' ⟨rfl, hbS_⟩) | (go_at_call 12; (with_reducible refine (MC.out _).mono ?_); rintro e w' ⟨rfl, hbS_⟩) | (go_at_call 13; (with_reducible refine (LA.out _).mono ?_); rintro e w' ⟨rfl, hbS_⟩) | (go_at_call 14; (with_reducible refine (LB.out _).mono ?_); rintro e w' ⟨rfl, hbS_⟩) | (go_at_call 6; (with_reducible refine (WK.out _).mono ?_); rintro e w' ⟨rfl, hbS_⟩))
      refine hK.out _ _ ?_ (fun hHeld2 => ?_)
      · (try dsimp only); ((go_split_ands; first | exact ss_to (below_drew (Below.refl _ _)) (by assumption) (by assumption) (by assumption) (by assumption) (by assumption) (by assumption) | exact ss_to (pw_below_drewN (Below.refl _ _) _) (by assumption) (by assumption) (by assumption) (by assumption) (by assumption) (by assumption) | exact ss_to hbS_ (by assumption) (by assumption) (by assumption) (by assumption) (by assumption) (by assumption) | exact ss_to (Below.refl _ _) (by assumption) (by assumption) (by assumption) (by assumption) (by assumption) (by assumption)))
      clear hK K hHeld1
      try simp only [Act.put, List.setIfInBounds_toArray, List.set_cons_zero, List.set_cons_succ]
      first
        | (refine wpAnyH_take (i := 9) (oi := { dst := some 55, op := Op.binOp BinOp.eql 9 (Operand.tmp 52) (Operand.tmp 54) 9, type := 4, pos := "law.go:33", after := #[{ on := 6, ground := Ground.data }, { on := 8, ground := Ground.data }, { on := 4, ground := Ground.guard }], guard := some (4, true) }) (v := ?_) rfl (by kernel_rfl) (by kernel_rfl) (by kernel_rfl) (fun _ _ _ h => h) (Or.inl ⟨by rfl, ?_⟩) (by assumption) ?_; rotate_left; focus (intro w hSw; (try dsimp only at hSw); go_simp; (try with_reducible rfl)))
        | refine wpAnyH_take (i := 9) (oi := { dst := some 55, op := Op.binOp BinOp.eql 9 (Operand.tmp 52) (Operand.tmp 54) 9, type := 4, pos := "law.go:33", after := #[{ on := 6, ground := Ground.data }, { on := 8, ground := Ground.data }, { on := 4, ground := Ground.guard }], guard := some (4, true) }) (v := undef) rfl (by kernel_rfl) (by kernel_rfl) (by kernel_rfl) (fun _ _ _ h => h) (Or.inr ⟨by rfl, rfl⟩) (by assumption) ?_
      try simp only [Act.put, List.setIfInBounds_toArray, List.set_cons_zero, List.set_cons_succ]
      first
        | (refine wpAnyH_take (i := 10) (oi := { dst := some 56, op := Op.pick (Operand.tmp 50) (Operand.tmp 55) (Operand.const (Value.bool false)), type := 4, pos := "law.go:33", after := #[{ on := 4, ground := Ground.data }, { on := 9, ground := Ground.data }], guard := none }) (v := ?_) rfl (by kernel_rfl) (by kernel_rfl) (by kernel_rfl) (fun _ _ _ h => h) (Or.inl ⟨by rfl, ?_⟩) (by assumption) ?_; rotate_left; focus (intro w hSw; (try dsimp only at hSw); go_simp; (try with_reducible rfl)))
        | refine wpAnyH_take (i := 10) (oi := { dst := some 56, op := Op.pick (Operand.tmp 50) (Operand.tmp 55) (Operand.const (Value.bool false)), type := 4, pos := "law.go:33", after := #[{ on := 4, ground := Ground.data }, { on := 9, ground := Ground.data }], guard := none }) (v := undef) rfl (by kernel_rfl) (by kernel_rfl) (by kernel_rfl) (fun _ _ _ h => h) (Or.inr ⟨by rfl, rfl⟩) (by assumption) ?_
      try simp only [Act.put, List.setIfInBounds_toArray, List.set_cons_zero, List.set_cons_succ]
      first
        | (refine wpAnyH_take (i := 11) (oi := { dst := some 57, op := Op.move (Operand.tmp 56), type := 4, pos := "law.go:33", after := #[{ on := 10, ground := Ground.data }, { on := 6, ground := Ground.chain }], guard := none }) (v := ?_) rfl (by kernel_rfl) (by kernel_rfl) (by kernel_rfl) (fun _ _ _ h => h) (Or.inl ⟨by rfl, ?_⟩) (by assumption) ?_; rotate_left; focus (intro w hSw; (try dsimp only at hSw); go_simp; (try with_reducible rfl)))
        | refine wpAnyH_take (i := 11) (oi := { dst := some 57, op := Op.move (Operand.tmp 56), type := 4, pos := "law.go:33", after := #[{ on := 10, ground := Ground.data }, { on := 6, ground := Ground.chain }], guard := none }) (v := undef) rfl (by kernel_rfl) (by kernel_rfl) (by kernel_rfl) (fun _ _ _ h => h) (Or.inr ⟨by rfl, rfl⟩) (by assumption) ?_
      try simp only [Act.put, List.setIfInBounds_toArray, List.set_cons_zero, List.set_cons_succ]
      first
        | (refine wpAnyH_take (i := 12) (oi := { dst := some 58, op := Op.move (Operand.tmp 0), type := 3, pos := "law.go:33", after := #[{ on := 11, ground := Ground.guard }], guard := some (11, true) }) (v := ?_) rfl (by kernel_rfl) (by kernel_rfl) (by kernel_rfl) (fun _ _ _ h => h) (Or.inl ⟨by rfl, ?_⟩) (by assumption) ?_; rotate_left; focus (intro w hSw; (try dsimp only at hSw); go_simp; (try with_reducible rfl)))
        | refine wpAnyH_take (i := 12) (oi := { dst := some 58, op := Op.move (Operand.tmp 0), type := 3, pos := "law.go:33", after := #[{ on := 11, ground := Ground.guard }], guard := some (11, true) }) (v := undef) rfl (by kernel_rfl) (by kernel_rfl) (by kernel_rfl) (fun _ _ _ h => h) (Or.inr ⟨by rfl, rfl⟩) (by assumption) ?_
      try simp only [Act.put, List.setIfInBounds_toArray, List.set_cons_zero, List.set_cons_succ]
      first
        | (refine wpAnyH_take (i := 14) (oi := { dst := some 60, op := Op.fieldAddr 25 (Operand.tmp 5) 4, type := 0, pos := "law.go:33", after := #[{ on := 11, ground := Ground.guard }], guard := some (11, true) }) (v := ?_) rfl (by kernel_rfl) (by kernel_rfl) (by kernel_rfl) (fun _ _ _ h => h) (Or.inl ⟨by rfl, ?_⟩) (by assumption) ?_; rotate_left; focus (intro w hSw; (try dsimp only at hSw); go_simp; (try with_reducible rfl)))
        | refine wpAnyH_take (i := 14) (oi := { dst := some 60, op := Op.fieldAddr 25 (Operand.tmp 5) 4, type := 0, pos := "law.go:33", after := #[{ on := 11, ground := Ground.guard }], guard := some (11, true) }) (v := undef) rfl (by kernel_rfl) (by kernel_rfl) (by kernel_rfl) (fun _ _ _ h => h) (Or.inr ⟨by rfl, rfl⟩) (by assumption) ?_
      try simp only [Act.put, List.setIfInBounds_toArray, List.set_cons_zero, List.set_cons_succ]
      first
        | (refine wpAnyH_take (i := 15) (oi := { dst := some 61, op := Op.load 4 (Operand.tmp 60), type := 4, pos := "law.go:33", after := #[{ on := 14, ground := Ground.data }, { on := 11, ground := Ground.guard }], guard := some (11, true) }) (v := ?_) rfl (by kernel_rfl) (by kernel_rfl) (by kernel_rfl) (fun _ _ _ h => h) (Or.inl ⟨by rfl, ?_⟩) (by assumption) ?_; rotate_left; focus (intro w hSw; (try dsimp only at hSw); go_simp; (try with_reducible rfl)))
        | refine wpAnyH_take (i := 15) (oi := { dst := some 61, op := Op.load 4 (Operand.tmp 60), type := 4, pos := "law.go:33", after := #[{ on := 14, ground := Ground.data }, { on := 11, ground := Ground.guard }], guard := some (11, true) }) (v := undef) rfl (by kernel_rfl) (by kernel_rfl) (by kernel_rfl) (fun _ _ _ h => h) (Or.inr ⟨by rfl, rfl⟩) (by assumption) ?_
      try simp only [Act.put, List.setIfInBounds_toArray, List.set_cons_zero, List.set_cons_succ]
      refine wpAnyH_ready (rs := [13]) (by kernel_rfl) (by simp) ?_
      refine AllReadyH.cons (o := { dst := some 59, op := Op.call { callee := Callee.value (Operand.func 12), args := #[Operand.tmp 58], argTypes := #[3] }, type := 4, pos := "law.go:33", after := #[{ on := 12, ground := Ground.data }, { on := 11, ground := Ground.chain }, { on := 11, ground := Ground.guard }], guard := some (11, true) }) rfl (fun K hK => ?_) AllReadyH.nil
      go_simp
      (first | (go_at_call 10; (with_reducible refine (IS.out _).mono ?_); rintro e w' ⟨rfl, hbS_⟩) | (go_at_call 11; (with_reducible refine (NM.out _).mono ?_); rintro e w' ⟨rfl, hbS_⟩) | (go_at_call 12; (with_reducible refine (MC.out _).mono ?_); rintro e w' ⟨rfl, hbS_⟩) | (go_at_call 13; (with_reducible refine (LA.out _).mono ?_); rintro e w' ⟨rfl, hbS_⟩) | (go_at_call 14; (with_reducible refine (LB.out _).mono ?_); rintro e w' ⟨rfl, hbS_⟩) | (go_at_call 6; (with_reducible refine (WK.out _).mono ?_); rintro e w' ⟨rfl, hbS_⟩))
      refine hK.out _ _ ?_ (fun hHeld3 => ?_)
      · (try dsimp only); ((go_split_ands; first | exact ss_to (below_drew (Below.refl _ _)) (by assumption) (by assumption) (by assumption) (by assumption) (by assumption) (by assumption) | exact ss_to (pw_below_drewN (Below.refl _ _) _) (by assumption) (by assumption) (by assumption) (by assumption) (by assumption) (by assumption) | exact ss_to hbS_ (by assumption) (by assumption) (by assumption) (by assumption) (by assumption) (by assumption) | exact ss_to (Below.refl _ _) (by assumption) (by assumption) (by assumption) (by assumption) (by assumption) (by assumption)))
      clear hK K hHeld2
      try simp only [Act.put, List.setIfInBounds_toArray, List.set_cons_zero, List.set_cons_succ]
      first
        | (refine wpAnyH_take (i := 16) (oi := { dst := some 62, op := Op.binOp BinOp.eql 4 (Operand.tmp 59) (Operand.tmp 61) 4, type := 4, pos := "law.go:33", after := #[{ on := 13, ground := Ground.data }, { on := 15, ground := Ground.data }, { on := 11, ground := Ground.guard }], guard := some (11, true) }) (v := ?_) rfl (by kernel_rfl) (by kernel_rfl) (by kernel_rfl) (fun _ _ _ h => h) (Or.inl ⟨by rfl, ?_⟩) (by assumption) ?_; rotate_left; focus (intro w hSw; (try dsimp only at hSw); go_simp; (try with_reducible rfl)))
        | refine wpAnyH_take (i := 16) (oi := { dst := some 62, op := Op.binOp BinOp.eql 4 (Operand.tmp 59) (Operand.tmp 61) 4, type := 4, pos := "law.go:33", after := #[{ on := 13, ground := Ground.data }, { on := 15, ground := Ground.data }, { on := 11, ground := Ground.guard }], guard := some (11, true) }) (v := undef) rfl (by kernel_rfl) (by kernel_rfl) (by kernel_rfl) (fun _ _ _ h => h) (Or.inr ⟨by rfl, rfl⟩) (by assumption) ?_
      try simp only [Act.put, List.setIfInBounds_toArray, List.set_cons_zero, List.set_cons_succ]
      first
        | (refine wpAnyH_take (i := 17) (oi := { dst := some 63, op := Op.pick (Operand.tmp 57) (Operand.tmp 62) (Operand.const (Value.bool false)), type := 4, pos := "law.go:33", after := #[{ on := 11, ground := Ground.data }, { on := 16, ground := Ground.data }], guard := none }) (v := ?_) rfl (by kernel_rfl) (by kernel_rfl) (by kernel_rfl) (fun _ _ _ h => h) (Or.inl ⟨by rfl, ?_⟩) (by assumption) ?_; rotate_left; focus (intro w hSw; (try dsimp only at hSw); go_simp; (try with_reducible rfl)))
        | refine wpAnyH_take (i := 17) (oi := { dst := some 63, op := Op.pick (Operand.tmp 57) (Operand.tmp 62) (Operand.const (Value.bool false)), type := 4, pos := "law.go:33", after := #[{ on := 11, ground := Ground.data }, { on := 16, ground := Ground.data }], guard := none }) (v := undef) rfl (by kernel_rfl) (by kernel_rfl) (by kernel_rfl) (fun _ _ _ h => h) (Or.inr ⟨by rfl, rfl⟩) (by assumption) ?_
      try simp only [Act.put, List.setIfInBounds_toArray, List.set_cons_zero, List.set_cons_succ]
      first
        | (refine wpAnyH_take (i := 18) (oi := { dst := some 64, op := Op.move (Operand.tmp 63), type := 4, pos := "law.go:33", after := #[{ on := 17, ground := Ground.data }, { on := 13, ground := Ground.chain }], guard := none }) (v := ?_) rfl (by kernel_rfl) (by kernel_rfl) (by kernel_rfl) (fun _ _ _ h => h) (Or.inl ⟨by rfl, ?_⟩) (by assumption) ?_; rotate_left; focus (intro w hSw; (try dsimp only at hSw); go_simp; (try with_reducible rfl)))
        | refine wpAnyH_take (i := 18) (oi := { dst := some 64, op := Op.move (Operand.tmp 63), type := 4, pos := "law.go:33", after := #[{ on := 17, ground := Ground.data }, { on := 13, ground := Ground.chain }], guard := none }) (v := undef) rfl (by kernel_rfl) (by kernel_rfl) (by kernel_rfl) (fun _ _ _ h => h) (Or.inr ⟨by rfl, rfl⟩) (by assumption) ?_
      try simp only [Act.put, List.setIfInBounds_toArray, List.set_cons_zero, List.set_cons_succ]
      first
        | (refine wpAnyH_take (i := 19) (oi := { dst := some 65, op := Op.move (Operand.tmp 0), type := 3, pos := "law.go:33", after := #[{ on := 18, ground := Ground.guard }], guard := some (18, true) }) (v := ?_) rfl (by kernel_rfl) (by kernel_rfl) (by kernel_rfl) (fun _ _ _ h => h) (Or.inl ⟨by rfl, ?_⟩) (by assumption) ?_; rotate_left; focus (intro w hSw; (try dsimp only at hSw); go_simp; (try with_reducible rfl)))
        | refine wpAnyH_take (i := 19) (oi := { dst := some 65, op := Op.move (Operand.tmp 0), type := 3, pos := "law.go:33", after := #[{ on := 18, ground := Ground.guard }], guard := some (18, true) }) (v := undef) rfl (by kernel_rfl) (by kernel_rfl) (by kernel_rfl) (fun _ _ _ h => h) (Or.inr ⟨by rfl, rfl⟩) (by assumption) ?_
      try simp only [Act.put, List.setIfInBounds_toArray, List.set_cons_zero, List.set_cons_succ]
      first
        | (refine wpAnyH_take (i := 21) (oi := { dst := some 67, op := Op.move (Operand.tmp 0), type := 3, pos := "law.go:33", after := #[{ on := 18, ground := Ground.guard }], guard := some (18, true) }) (v := ?_) rfl (by kernel_rfl) (by kernel_rfl) (by kernel_rfl) (fun _ _ _ h => h) (Or.inl ⟨by rfl, ?_⟩) (by assumption) ?_; rotate_left; focus (intro w hSw; (try dsimp only at hSw); go_simp; (try with_reducible rfl)))
        | refine wpAnyH_take (i := 21) (oi := { dst := some 67, op := Op.move (Operand.tmp 0), type := 3, pos := "law.go:33", after := #[{ on := 18, ground := Ground.guard }], guard := some (18, true) }) (v := undef) rfl (by kernel_rfl) (by kernel_rfl) (by kernel_rfl) (fun _ _ _ h => h) (Or.inr ⟨by rfl, rfl⟩) (by assumption) ?_
      try simp only [Act.put, List.setIfInBounds_toArray, List.set_cons_zero, List.set_cons_succ]
      first
        | (refine wpAnyH_take (i := 22) (oi := { dst := some 68, op := Op.binOp BinOp.geq 3 (Operand.tmp 67) (Operand.const (Value.int IntKind.i64 20)) 3, type := 4, pos := "law.go:33", after := #[{ on := 21, ground := Ground.data }, { on := 18, ground := Ground.guard }], guard := some (18, true) }) (v := ?_) rfl (by kernel_rfl) (by kernel_rfl) (by kernel_rfl) (fun _ _ _ h => h) (Or.inl ⟨by rfl, ?_⟩) (by assumption) ?_; rotate_left; focus (intro w hSw; (try dsimp only at hSw); go_simp; (try with_reducible rfl)))
        | refine wpAnyH_take (i := 22) (oi := { dst := some 68, op := Op.binOp BinOp.geq 3 (Operand.tmp 67) (Operand.const (Value.int IntKind.i64 20)) 3, type := 4, pos := "law.go:33", after := #[{ on := 21, ground := Ground.data }, { on := 18, ground := Ground.guard }], guard := some (18, true) }) (v := undef) rfl (by kernel_rfl) (by kernel_rfl) (by kernel_rfl) (fun _ _ _ h => h) (Or.inr ⟨by rfl, rfl⟩) (by assumption) ?_
      try simp only [Act.put, List.setIfInBounds_toArray, List.set_cons_zero, List.set_cons_succ]
      refine wpAnyH_ready (rs := [20]) (by kernel_rfl) (by simp) ?_
      refine AllReadyH.cons (o := { dst := some 66, op := Op.call { callee := Callee.value (Operand.func 13), args := #[Operand.tmp 65], argTypes := #[3] }, type := 4, pos := "law.go:33", after := #[{ on := 19, ground := Ground.data }, { on := 18, ground := Ground.chain }, { on := 18, ground := Ground.guard }], guard := some (18, true) }) rfl (fun K hK => ?_) AllReadyH.nil
      go_simp
      (first | (go_at_call 10; (with_reducible refine (IS.out _).mono ?_); rintro e w' ⟨rfl, hbS_⟩) | (go_at_call 11; (with_reducible refine (NM.out _).mono ?_); rintro e w' ⟨rfl, hbS_⟩) | (go_at_call 12; (with_reducible refine (MC.out _).mono ?_); rintro e w' ⟨rfl, hbS_⟩) | (go_at_call 13; (with_reducible refine (LA.out _).mono ?_); rintro e w' ⟨rfl, hbS_⟩) | (go_at_call 14; (with_reducible refine (LB.out _).mono ?_); rintro e w' ⟨rfl, hbS_⟩) | (go_at_call 6; (with_reducible refine (WK.out _).mono ?_); rintro e w' ⟨rfl, hbS_⟩))
      refine hK.out _ _ ?_ (fun hHeld4 => ?_)
      · (try dsimp only); ((go_split_ands; first | exact ss_to (below_drew (Below.refl _ _)) (by assumption) (by assumption) (by assumption) (by assumption) (by assumption) (by assumption) | exact ss_to (pw_below_drewN (Below.refl _ _) _) (by assumption) (by assumption) (by assumption) (by assumption) (by assumption) (by assumption) | exact ss_to hbS_ (by assumption) (by assumption) (by assumption) (by assumption) (by assumption) (by assumption) | exact ss_to (Below.refl _ _) (by assumption) (by assumption) (by assumption) (by assumption) (by assumption) (by assumption)))
      clear hK K hHeld3
      try simp only [Act.put, List.setIfInBounds_toArray, List.set_cons_zero, List.set_cons_succ]
      first
        | (refine wpAnyH_take (i := 23) (oi := { dst := some 69, op := Op.move (Operand.tmp 68), type := 4, pos := "law.go:33", after := #[{ on := 22, ground := Ground.data }, { on := 20, ground := Ground.chain }, { on := 18, ground := Ground.guard }], guard := some (18, true) }) (v := ?_) rfl (by kernel_rfl) (by kernel_rfl) (by kernel_rfl) (fun _ _ _ h => h) (Or.inl ⟨by rfl, ?_⟩) (by assumption) ?_; rotate_left; focus (intro w hSw; (try dsimp only at hSw); go_simp; (try with_reducible rfl)))
        | refine wpAnyH_take (i := 23) (oi := { dst := some 69, op := Op.move (Operand.tmp 68), type := 4, pos := "law.go:33", after := #[{ on := 22, ground := Ground.data }, { on := 20, ground := Ground.chain }, { on := 18, ground := Ground.guard }], guard := some (18, true) }) (v := undef) rfl (by kernel_rfl) (by kernel_rfl) (by kernel_rfl) (fun _ _ _ h => h) (Or.inr ⟨by rfl, rfl⟩) (by assumption) ?_
      try simp only [Act.put, List.setIfInBounds_toArray, List.set_cons_zero, List.set_cons_succ]
      first
        | (refine wpAnyH_take (i := 24) (oi := { dst := some 70, op := Op.move (Operand.tmp 0), type := 3, pos := "law.go:33", after := #[{ on := 23, ground := Ground.guard }], guard := some (23, true) }) (v := ?_) rfl (by kernel_rfl) (by kernel_rfl) (by kernel_rfl) (fun _ _ _ h => h) (Or.inl ⟨by rfl, ?_⟩) (by assumption) ?_; rotate_left; focus (intro w hSw; (try dsimp only at hSw); go_simp; (try with_reducible rfl)))
        | refine wpAnyH_take (i := 24) (oi := { dst := some 70, op := Op.move (Operand.tmp 0), type := 3, pos := "law.go:33", after := #[{ on := 23, ground := Ground.guard }], guard := some (23, true) }) (v := undef) rfl (by kernel_rfl) (by kernel_rfl) (by kernel_rfl) (fun _ _ _ h => h) (Or.inr ⟨by rfl, rfl⟩) (by assumption) ?_
      try simp only [Act.put, List.setIfInBounds_toArray, List.set_cons_zero, List.set_cons_succ]
      first
        | (refine wpAnyH_take (i := 25) (oi := { dst := some 71, op := Op.binOp BinOp.leq 3 (Operand.tmp 70) (Operand.const (Value.int IntKind.i64 23)) 3, type := 4, pos := "law.go:33", after := #[{ on := 24, ground := Ground.data }, { on := 23, ground := Ground.guard }], guard := some (23, true) }) (v := ?_) rfl (by kernel_rfl) (by kernel_rfl) (by kernel_rfl) (fun _ _ _ h => h) (Or.inl ⟨by rfl, ?_⟩) (by assumption) ?_; rotate_left; focus (intro w hSw; (try dsimp only at hSw); go_simp; (try with_reducible rfl)))
        | refine wpAnyH_take (i := 25) (oi := { dst := some 71, op := Op.binOp BinOp.leq 3 (Operand.tmp 70) (Operand.const (Value.int IntKind.i64 23)) 3, type := 4, pos := "law.go:33", after := #[{ on := 24, ground := Ground.data }, { on := 23, ground := Ground.guard }], guard := some (23, true) }) (v := undef) rfl (by kernel_rfl) (by kernel_rfl) (by kernel_rfl) (fun _ _ _ h => h) (Or.inr ⟨by rfl, rfl⟩) (by assumption) ?_
      try simp only [Act.put, List.setIfInBounds_toArray, List.set_cons_zero, List.set_cons_succ]
      first
        | (refine wpAnyH_take (i := 26) (oi := { dst := some 72, op := Op.pick (Operand.tmp 69) (Operand.tmp 71) (Operand.const (Value.bool false)), type := 4, pos := "law.go:33", after := #[{ on := 23, ground := Ground.data }, { on := 25, ground := Ground.data }, { on := 18, ground := Ground.guard }], guard := some (18, true) }) (v := ?_) rfl (by kernel_rfl) (by kernel_rfl) (by kernel_rfl) (fun _ _ _ h => h) (Or.inl ⟨by rfl, ?_⟩) (by assumption) ?_; rotate_left; focus (intro w hSw; (try dsimp only at hSw); go_simp; (try with_reducible rfl)))
        | refine wpAnyH_take (i := 26) (oi := { dst := some 72, op := Op.pick (Operand.tmp 69) (Operand.tmp 71) (Operand.const (Value.bool false)), type := 4, pos := "law.go:33", after := #[{ on := 23, ground := Ground.data }, { on := 25, ground := Ground.data }, { on := 18, ground := Ground.guard }], guard := some (18, true) }) (v := undef) rfl (by kernel_rfl) (by kernel_rfl) (by kernel_rfl) (fun _ _ _ h => h) (Or.inr ⟨by rfl, rfl⟩) (by assumption) ?_
      try simp only [Act.put, List.setIfInBounds_toArray, List.set_cons_zero, List.set_cons_succ]
      first
        | (refine wpAnyH_take (i := 27) (oi := { dst := some 73, op := Op.binOp BinOp.eql 4 (Operand.tmp 66) (Operand.tmp 72) 4, type := 4, pos := "law.go:33", after := #[{ on := 20, ground := Ground.data }, { on := 26, ground := Ground.data }, { on := 18, ground := Ground.guard }], guard := some (18, true) }) (v := ?_) rfl (by kernel_rfl) (by kernel_rfl) (by kernel_rfl) (fun _ _ _ h => h) (Or.inl ⟨by rfl, ?_⟩) (by assumption) ?_; rotate_left; focus (intro w hSw; (try dsimp only at hSw); go_simp; (try with_reducible rfl)))
        | refine wpAnyH_take (i := 27) (oi := { dst := some 73, op := Op.binOp BinOp.eql 4 (Operand.tmp 66) (Operand.tmp 72) 4, type := 4, pos := "law.go:33", after := #[{ on := 20, ground := Ground.data }, { on := 26, ground := Ground.data }, { on := 18, ground := Ground.guard }], guard := some (18, true) }) (v := undef) rfl (by kernel_rfl) (by kernel_rfl) (by kernel_rfl) (fun _ _ _ h => h) (Or.inr ⟨by rfl, rfl⟩) (by assumption) ?_
      try simp only [Act.put, List.setIfInBounds_toArray, List.set_cons_zero, List.set_cons_succ]
      first
        | (refine wpAnyH_take (i := 28) (oi := { dst := some 74, op := Op.pick (Operand.tmp 64) (Operand.tmp 73) (Operand.const (Value.bool false)), type := 4, pos := "law.go:33", after := #[{ on := 18, ground := Ground.data }, { on := 27, ground := Ground.data }], guard := none }) (v := ?_) rfl (by kernel_rfl) (by kernel_rfl) (by kernel_rfl) (fun _ _ _ h => h) (Or.inl ⟨by rfl, ?_⟩) (by assumption) ?_; rotate_left; focus (intro w hSw; (try dsimp only at hSw); go_simp; (try with_reducible rfl)))
        | refine wpAnyH_take (i := 28) (oi := { dst := some 74, op := Op.pick (Operand.tmp 64) (Operand.tmp 73) (Operand.const (Value.bool false)), type := 4, pos := "law.go:33", after := #[{ on := 18, ground := Ground.data }, { on := 27, ground := Ground.data }], guard := none }) (v := undef) rfl (by kernel_rfl) (by kernel_rfl) (by kernel_rfl) (fun _ _ _ h => h) (Or.inr ⟨by rfl, rfl⟩) (by assumption) ?_
      try simp only [Act.put, List.setIfInBounds_toArray, List.set_cons_zero, List.set_cons_succ]
      first
        | (refine wpAnyH_take (i := 29) (oi := { dst := some 75, op := Op.move (Operand.tmp 74), type := 4, pos := "law.go:33", after := #[{ on := 28, ground := Ground.data }, { on := 23, ground := Ground.chain }], guard := none }) (v := ?_) rfl (by kernel_rfl) (by kernel_rfl) (by kernel_rfl) (fun _ _ _ h => h) (Or.inl ⟨by rfl, ?_⟩) (by assumption) ?_; rotate_left; focus (intro w hSw; (try dsimp only at hSw); go_simp; (try with_reducible rfl)))
        | refine wpAnyH_take (i := 29) (oi := { dst := some 75, op := Op.move (Operand.tmp 74), type := 4, pos := "law.go:33", after := #[{ on := 28, ground := Ground.data }, { on := 23, ground := Ground.chain }], guard := none }) (v := undef) rfl (by kernel_rfl) (by kernel_rfl) (by kernel_rfl) (fun _ _ _ h => h) (Or.inr ⟨by rfl, rfl⟩) (by assumption) ?_
      try simp only [Act.put, List.setIfInBounds_toArray, List.set_cons_zero, List.set_cons_succ]
      first
        | (refine wpAnyH_take (i := 30) (oi := { dst := some 76, op := Op.move (Operand.tmp 7), type := 3, pos := "law.go:33", after := #[{ on := 29, ground := Ground.guard }], guard := some (29, true) }) (v := ?_) rfl (by kernel_rfl) (by kernel_rfl) (by kernel_rfl) (fun _ _ _ h => h) (Or.inl ⟨by rfl, ?_⟩) (by assumption) ?_; rotate_left; focus (intro w hSw; (try dsimp only at hSw); go_simp; (try with_reducible rfl)))
        | refine wpAnyH_take (i := 30) (oi := { dst := some 76, op := Op.move (Operand.tmp 7), type := 3, pos := "law.go:33", after := #[{ on := 29, ground := Ground.guard }], guard := some (29, true) }) (v := undef) rfl (by kernel_rfl) (by kernel_rfl) (by kernel_rfl) (fun _ _ _ h => h) (Or.inr ⟨by rfl, rfl⟩) (by assumption) ?_
      try simp only [Act.put, List.setIfInBounds_toArray, List.set_cons_zero, List.set_cons_succ]
      first
        | (refine wpAnyH_take (i := 31) (oi := { dst := some 77, op := Op.move (Operand.tmp 12), type := 3, pos := "law.go:33", after := #[{ on := 29, ground := Ground.guard }], guard := some (29, true) }) (v := ?_) rfl (by kernel_rfl) (by kernel_rfl) (by kernel_rfl) (fun _ _ _ h => h) (Or.inl ⟨by rfl, ?_⟩) (by assumption) ?_; rotate_left; focus (intro w hSw; (try dsimp only at hSw); go_simp; (try with_reducible rfl)))
        | refine wpAnyH_take (i := 31) (oi := { dst := some 77, op := Op.move (Operand.tmp 12), type := 3, pos := "law.go:33", after := #[{ on := 29, ground := Ground.guard }], guard := some (29, true) }) (v := undef) rfl (by kernel_rfl) (by kernel_rfl) (by kernel_rfl) (fun _ _ _ h => h) (Or.inr ⟨by rfl, rfl⟩) (by assumption) ?_
      try simp only [Act.put, List.setIfInBounds_toArray, List.set_cons_zero, List.set_cons_succ]
      first
        | (refine wpAnyH_take (i := 32) (oi := { dst := some 78, op := Op.binOp BinOp.eql 3 (Operand.tmp 76) (Operand.tmp 77) 3, type := 4, pos := "law.go:33", after := #[{ on := 30, ground := Ground.data }, { on := 31, ground := Ground.data }, { on := 29, ground := Ground.guard }], guard := some (29, true) }) (v := ?_) rfl (by kernel_rfl) (by kernel_rfl) (by kernel_rfl) (fun _ _ _ h => h) (Or.inl ⟨by rfl, ?_⟩) (by assumption) ?_; rotate_left; focus (intro w hSw; (try dsimp only at hSw); go_simp; (try with_reducible rfl)))
        | refine wpAnyH_take (i := 32) (oi := { dst := some 78, op := Op.binOp BinOp.eql 3 (Operand.tmp 76) (Operand.tmp 77) 3, type := 4, pos := "law.go:33", after := #[{ on := 30, ground := Ground.data }, { on := 31, ground := Ground.data }, { on := 29, ground := Ground.guard }], guard := some (29, true) }) (v := undef) rfl (by kernel_rfl) (by kernel_rfl) (by kernel_rfl) (fun _ _ _ h => h) (Or.inr ⟨by rfl, rfl⟩) (by assumption) ?_
      try simp only [Act.put, List.setIfInBounds_toArray, List.set_cons_zero, List.set_cons_succ]
      first
        | (refine wpAnyH_take (i := 33) (oi := { dst := some 79, op := Op.pick (Operand.tmp 75) (Operand.tmp 78) (Operand.const (Value.bool false)), type := 4, pos := "law.go:33", after := #[{ on := 29, ground := Ground.data }, { on := 32, ground := Ground.data }], guard := none }) (v := ?_) rfl (by kernel_rfl) (by kernel_rfl) (by kernel_rfl) (fun _ _ _ h => h) (Or.inl ⟨by rfl, ?_⟩) (by assumption) ?_; rotate_left; focus (intro w hSw; (try dsimp only at hSw); go_simp; (try with_reducible rfl)))
        | refine wpAnyH_take (i := 33) (oi := { dst := some 79, op := Op.pick (Operand.tmp 75) (Operand.tmp 78) (Operand.const (Value.bool false)), type := 4, pos := "law.go:33", after := #[{ on := 29, ground := Ground.data }, { on := 32, ground := Ground.data }], guard := none }) (v := undef) rfl (by kernel_rfl) (by kernel_rfl) (by kernel_rfl) (fun _ _ _ h => h) (Or.inr ⟨by rfl, rfl⟩) (by assumption) ?_
      try simp only [Act.put, List.setIfInBounds_toArray, List.set_cons_zero, List.set_cons_succ]
      first
        | (refine wpAnyH_take (i := 34) (oi := { dst := some 80, op := Op.move (Operand.tmp 79), type := 4, pos := "law.go:33", after := #[{ on := 33, ground := Ground.data }, { on := 29, ground := Ground.chain }], guard := none }) (v := ?_) rfl (by kernel_rfl) (by kernel_rfl) (by kernel_rfl) (fun _ _ _ h => h) (Or.inl ⟨by rfl, ?_⟩) (by assumption) ?_; rotate_left; focus (intro w hSw; (try dsimp only at hSw); go_simp; (try with_reducible rfl)))
        | refine wpAnyH_take (i := 34) (oi := { dst := some 80, op := Op.move (Operand.tmp 79), type := 4, pos := "law.go:33", after := #[{ on := 33, ground := Ground.data }, { on := 29, ground := Ground.chain }], guard := none }) (v := undef) rfl (by kernel_rfl) (by kernel_rfl) (by kernel_rfl) (fun _ _ _ h => h) (Or.inr ⟨by rfl, rfl⟩) (by assumption) ?_
      try simp only [Act.put, List.setIfInBounds_toArray, List.set_cons_zero, List.set_cons_succ]
      first
        | (refine wpAnyH_take (i := 35) (oi := { dst := some 81, op := Op.move (Operand.tmp 8), type := 3, pos := "law.go:33", after := #[{ on := 34, ground := Ground.guard }], guard := some (34, true) }) (v := ?_) rfl (by kernel_rfl) (by kernel_rfl) (by kernel_rfl) (fun _ _ _ h => h) (Or.inl ⟨by rfl, ?_⟩) (by assumption) ?_; rotate_left; focus (intro w hSw; (try dsimp only at hSw); go_simp; (try with_reducible rfl)))
        | refine wpAnyH_take (i := 35) (oi := { dst := some 81, op := Op.move (Operand.tmp 8), type := 3, pos := "law.go:33", after := #[{ on := 34, ground := Ground.guard }], guard := some (34, true) }) (v := undef) rfl (by kernel_rfl) (by kernel_rfl) (by kernel_rfl) (fun _ _ _ h => h) (Or.inr ⟨by rfl, rfl⟩) (by assumption) ?_
      try simp only [Act.put, List.setIfInBounds_toArray, List.set_cons_zero, List.set_cons_succ]
      first
        | (refine wpAnyH_take (i := 36) (oi := { dst := some 82, op := Op.fieldAddr 25 (Operand.tmp 5) 2, type := 0, pos := "law.go:33", after := #[{ on := 34, ground := Ground.guard }], guard := some (34, true) }) (v := ?_) rfl (by kernel_rfl) (by kernel_rfl) (by kernel_rfl) (fun _ _ _ h => h) (Or.inl ⟨by rfl, ?_⟩) (by assumption) ?_; rotate_left; focus (intro w hSw; (try dsimp only at hSw); go_simp; (try with_reducible rfl)))
        | refine wpAnyH_take (i := 36) (oi := { dst := some 82, op := Op.fieldAddr 25 (Operand.tmp 5) 2, type := 0, pos := "law.go:33", after := #[{ on := 34, ground := Ground.guard }], guard := some (34, true) }) (v := undef) rfl (by kernel_rfl) (by kernel_rfl) (by kernel_rfl) (fun _ _ _ h => h) (Or.inr ⟨by rfl, rfl⟩) (by assumption) ?_
      try simp only [Act.put, List.setIfInBounds_toArray, List.set_cons_zero, List.set_cons_succ]
      first
        | (refine wpAnyH_take (i := 37) (oi := { dst := some 83, op := Op.load 23 (Operand.tmp 82), type := 23, pos := "law.go:33", after := #[{ on := 36, ground := Ground.data }, { on := 34, ground := Ground.guard }], guard := some (34, true) }) (v := ?_) rfl (by kernel_rfl) (by kernel_rfl) (by kernel_rfl) (fun _ _ _ h => h) (Or.inl ⟨by rfl, ?_⟩) (by assumption) ?_; rotate_left; focus (intro w hSw; (try dsimp only at hSw); go_simp; (try with_reducible rfl)))
        | refine wpAnyH_take (i := 37) (oi := { dst := some 83, op := Op.load 23 (Operand.tmp 82), type := 23, pos := "law.go:33", after := #[{ on := 36, ground := Ground.data }, { on := 34, ground := Ground.guard }], guard := some (34, true) }) (v := undef) rfl (by kernel_rfl) (by kernel_rfl) (by kernel_rfl) (fun _ _ _ h => h) (Or.inr ⟨by rfl, rfl⟩) (by assumption) ?_
      try simp only [Act.put, List.setIfInBounds_toArray, List.set_cons_zero, List.set_cons_succ]
      refine wpAnyH_ready (rs := [38]) (by kernel_rfl) (by simp) ?_
      refine AllReadyH.cons (o := { dst := some 84, op := Op.call { callee := Callee.builtin Builtin.len, args := #[Operand.tmp 83], argTypes := #[23] }, type := 3, pos := "law.go:33", after := #[{ on := 37, ground := Ground.data }, { on := 34, ground := Ground.guard }], guard := some (34, true) }) rfl (fun K hK => ?_) AllReadyH.nil
      go_simp
      refine hK.out _ _ ?_ (fun hHeld5 => ?_)
      · (try dsimp only); ((go_split_ands; first | exact ss_to (below_drew (Below.refl _ _)) (by assumption) (by assumption) (by assumption) (by assumption) (by assumption) (by assumption) | exact ss_to (pw_below_drewN (Below.refl _ _) _) (by assumption) (by assumption) (by assumption) (by assumption) (by assumption) (by assumption) | exact ss_to hbS_ (by assumption) (by assumption) (by assumption) (by assumption) (by assumption) (by assumption) | exact ss_to (Below.refl _ _) (by assumption) (by assumption) (by assumption) (by assumption) (by assumption) (by assumption)))
      clear hK K hHeld4
      try simp only [Act.put, List.setIfInBounds_toArray, List.set_cons_zero, List.set_cons_succ]
      first
        | (refine wpAnyH_take (i := 39) (oi := { dst := some 85, op := Op.binOp BinOp.eql 3 (Operand.tmp 81) (Operand.tmp 84) 3, type := 4, pos := "law.go:33", after := #[{ on := 35, ground := Ground.data }, { on := 38, ground := Ground.data }, { on := 34, ground := Ground.guard }], guard := some (34, true) }) (v := ?_) rfl (by kernel_rfl) (by kernel_rfl) (by kernel_rfl) (fun _ _ _ h => h) (Or.inl ⟨by rfl, ?_⟩) (by assumption) ?_; rotate_left; focus (intro w hSw; (try dsimp only at hSw); go_simp; (try with_reducible rfl)))
        | refine wpAnyH_take (i := 39) (oi := { dst := some 85, op := Op.binOp BinOp.eql 3 (Operand.tmp 81) (Operand.tmp 84) 3, type := 4, pos := "law.go:33", after := #[{ on := 35, ground := Ground.data }, { on := 38, ground := Ground.data }, { on := 34, ground := Ground.guard }], guard := some (34, true) }) (v := undef) rfl (by kernel_rfl) (by kernel_rfl) (by kernel_rfl) (fun _ _ _ h => h) (Or.inr ⟨by rfl, rfl⟩) (by assumption) ?_
      try simp only [Act.put, List.setIfInBounds_toArray, List.set_cons_zero, List.set_cons_succ]
      first
        | (refine wpAnyH_take (i := 40) (oi := { dst := some 86, op := Op.pick (Operand.tmp 80) (Operand.tmp 85) (Operand.const (Value.bool false)), type := 4, pos := "law.go:33", after := #[{ on := 34, ground := Ground.data }, { on := 39, ground := Ground.data }], guard := none }) (v := ?_) rfl (by kernel_rfl) (by kernel_rfl) (by kernel_rfl) (fun _ _ _ h => h) (Or.inl ⟨by rfl, ?_⟩) (by assumption) ?_; rotate_left; focus (intro w hSw; (try dsimp only at hSw); go_simp; (try with_reducible rfl)))
        | refine wpAnyH_take (i := 40) (oi := { dst := some 86, op := Op.pick (Operand.tmp 80) (Operand.tmp 85) (Operand.const (Value.bool false)), type := 4, pos := "law.go:33", after := #[{ on := 34, ground := Ground.data }, { on := 39, ground := Ground.data }], guard := none }) (v := undef) rfl (by kernel_rfl) (by kernel_rfl) (by kernel_rfl) (fun _ _ _ h => h) (Or.inr ⟨by rfl, rfl⟩) (by assumption) ?_
      try simp only [Act.put, List.setIfInBounds_toArray, List.set_cons_zero, List.set_cons_succ]
      first
        | (refine wpAnyH_take (i := 41) (oi := { dst := some 87, op := Op.move (Operand.tmp 86), type := 4, pos := "law.go:33", after := #[{ on := 40, ground := Ground.data }, { on := 34, ground := Ground.chain }], guard := none }) (v := ?_) rfl (by kernel_rfl) (by kernel_rfl) (by kernel_rfl) (fun _ _ _ h => h) (Or.inl ⟨by rfl, ?_⟩) (by assumption) ?_; rotate_left; focus (intro w hSw; (try dsimp only at hSw); go_simp; (try with_reducible rfl)))
        | refine wpAnyH_take (i := 41) (oi := { dst := some 87, op := Op.move (Operand.tmp 86), type := 4, pos := "law.go:33", after := #[{ on := 40, ground := Ground.data }, { on := 34, ground := Ground.chain }], guard := none }) (v := undef) rfl (by kernel_rfl) (by kernel_rfl) (by kernel_rfl) (fun _ _ _ h => h) (Or.inr ⟨by rfl, rfl⟩) (by assumption) ?_
      try simp only [Act.put, List.setIfInBounds_toArray, List.set_cons_zero, List.set_cons_succ]
      first
        | (refine wpAnyH_take (i := 42) (oi := { dst := some 88, op := Op.move (Operand.tmp 10), type := 4, pos := "law.go:33", after := #[{ on := 41, ground := Ground.guard }], guard := some (41, true) }) (v := ?_) rfl (by kernel_rfl) (by kernel_rfl) (by kernel_rfl) (fun _ _ _ h => h) (Or.inl ⟨by rfl, ?_⟩) (by assumption) ?_; rotate_left; focus (intro w hSw; (try dsimp only at hSw); go_simp; (try with_reducible rfl)))
        | refine wpAnyH_take (i := 42) (oi := { dst := some 88, op := Op.move (Operand.tmp 10), type := 4, pos := "law.go:33", after := #[{ on := 41, ground := Ground.guard }], guard := some (41, true) }) (v := undef) rfl (by kernel_rfl) (by kernel_rfl) (by kernel_rfl) (fun _ _ _ h => h) (Or.inr ⟨by rfl, rfl⟩) (by assumption) ?_
      try simp only [Act.put, List.setIfInBounds_toArray, List.set_cons_zero, List.set_cons_succ]
      first
        | (refine wpAnyH_take (i := 43) (oi := { dst := some 89, op := Op.fieldAddr 25 (Operand.tmp 5) 1, type := 0, pos := "law.go:33", after := #[{ on := 41, ground := Ground.guard }], guard := some (41, true) }) (v := ?_) rfl (by kernel_rfl) (by kernel_rfl) (by kernel_rfl) (fun _ _ _ h => h) (Or.inl ⟨by rfl, ?_⟩) (by assumption) ?_; rotate_left; focus (intro w hSw; (try dsimp only at hSw); go_simp; (try with_reducible rfl)))
        | refine wpAnyH_take (i := 43) (oi := { dst := some 89, op := Op.fieldAddr 25 (Operand.tmp 5) 1, type := 0, pos := "law.go:33", after := #[{ on := 41, ground := Ground.guard }], guard := some (41, true) }) (v := undef) rfl (by kernel_rfl) (by kernel_rfl) (by kernel_rfl) (fun _ _ _ h => h) (Or.inr ⟨by rfl, rfl⟩) (by assumption) ?_
      try simp only [Act.put, List.setIfInBounds_toArray, List.set_cons_zero, List.set_cons_succ]
      first
        | (refine wpAnyH_take (i := 44) (oi := { dst := some 90, op := Op.load 9 (Operand.tmp 89), type := 9, pos := "law.go:33", after := #[{ on := 43, ground := Ground.data }, { on := 41, ground := Ground.guard }], guard := some (41, true) }) (v := ?_) rfl (by kernel_rfl) (by kernel_rfl) (by kernel_rfl) (fun _ _ _ h => h) (Or.inl ⟨by rfl, ?_⟩) (by assumption) ?_; rotate_left; focus (intro w hSw; (try dsimp only at hSw); go_simp; (try with_reducible rfl)))
        | refine wpAnyH_take (i := 44) (oi := { dst := some 90, op := Op.load 9 (Operand.tmp 89), type := 9, pos := "law.go:33", after := #[{ on := 43, ground := Ground.data }, { on := 41, ground := Ground.guard }], guard := some (41, true) }) (v := undef) rfl (by kernel_rfl) (by kernel_rfl) (by kernel_rfl) (fun _ _ _ h => h) (Or.inr ⟨by rfl, rfl⟩) (by assumption) ?_
      try simp only [Act.put, List.setIfInBounds_toArray, List.set_cons_zero, List.set_cons_succ]
      first
        | (refine wpAnyH_take (i := 45) (oi := { dst := some 91, op := Op.binOp BinOp.neq 9 (Operand.tmp 90) (Operand.const (Value.string { data := #[] })) 9, type := 4, pos := "law.go:33", after := #[{ on := 44, ground := Ground.data }, { on := 41, ground := Ground.guard }], guard := some (41, true) }) (v := ?_) rfl (by kernel_rfl) (by kernel_rfl) (by kernel_rfl) (fun _ _ _ h => h) (Or.inl ⟨by rfl, ?_⟩) (by assumption) ?_; rotate_left; focus (intro w hSw; (try dsimp only at hSw); go_simp; (try with_reducible rfl)))
        | refine wpAnyH_take (i := 45) (oi := { dst := some 91, op := Op.binOp BinOp.neq 9 (Operand.tmp 90) (Operand.const (Value.string { data := #[] })) 9, type := 4, pos := "law.go:33", after := #[{ on := 44, ground := Ground.data }, { on := 41, ground := Ground.guard }], guard := some (41, true) }) (v := undef) rfl (by kernel_rfl) (by kernel_rfl) (by kernel_rfl) (fun _ _ _ h => h) (Or.inr ⟨by rfl, rfl⟩) (by assumption) ?_
      try simp only [Act.put, List.setIfInBounds_toArray, List.set_cons_zero, List.set_cons_succ]
      first
        | (refine wpAnyH_take (i := 46) (oi := { dst := some 92, op := Op.binOp BinOp.eql 4 (Operand.tmp 88) (Operand.tmp 91) 4, type := 4, pos := "law.go:33", after := #[{ on := 42, ground := Ground.data }, { on := 45, ground := Ground.data }, { on := 41, ground := Ground.guard }], guard := some (41, true) }) (v := ?_) rfl (by kernel_rfl) (by kernel_rfl) (by kernel_rfl) (fun _ _ _ h => h) (Or.inl ⟨by rfl, ?_⟩) (by assumption) ?_; rotate_left; focus (intro w hSw; (try dsimp only at hSw); go_simp; (try with_reducible rfl)))
        | refine wpAnyH_take (i := 46) (oi := { dst := some 92, op := Op.binOp BinOp.eql 4 (Operand.tmp 88) (Operand.tmp 91) 4, type := 4, pos := "law.go:33", after := #[{ on := 42, ground := Ground.data }, { on := 45, ground := Ground.data }, { on := 41, ground := Ground.guard }], guard := some (41, true) }) (v := undef) rfl (by kernel_rfl) (by kernel_rfl) (by kernel_rfl) (fun _ _ _ h => h) (Or.inr ⟨by rfl, rfl⟩) (by assumption) ?_
      try simp only [Act.put, List.setIfInBounds_toArray, List.set_cons_zero, List.set_cons_succ]
      first
        | (refine wpAnyH_take (i := 47) (oi := { dst := some 93, op := Op.pick (Operand.tmp 87) (Operand.tmp 92) (Operand.const (Value.bool false)), type := 4, pos := "law.go:33", after := #[{ on := 41, ground := Ground.data }, { on := 46, ground := Ground.data }], guard := none }) (v := ?_) rfl (by kernel_rfl) (by kernel_rfl) (by kernel_rfl) (fun _ _ _ h => h) (Or.inl ⟨by rfl, ?_⟩) (by assumption) ?_; rotate_left; focus (intro w hSw; (try dsimp only at hSw); go_simp; (try with_reducible rfl)))
        | refine wpAnyH_take (i := 47) (oi := { dst := some 93, op := Op.pick (Operand.tmp 87) (Operand.tmp 92) (Operand.const (Value.bool false)), type := 4, pos := "law.go:33", after := #[{ on := 41, ground := Ground.data }, { on := 46, ground := Ground.data }], guard := none }) (v := undef) rfl (by kernel_rfl) (by kernel_rfl) (by kernel_rfl) (fun _ _ _ h => h) (Or.inr ⟨by rfl, rfl⟩) (by assumption) ?_
      try simp only [Act.put, List.setIfInBounds_toArray, List.set_cons_zero, List.set_cons_succ]
      first
        | (refine wpAnyH_take (i := 48) (oi := { dst := some 94, op := Op.move (Operand.tmp 93), type := 4, pos := "law.go:33", after := #[{ on := 47, ground := Ground.data }, { on := 41, ground := Ground.chain }], guard := none }) (v := ?_) rfl (by kernel_rfl) (by kernel_rfl) (by kernel_rfl) (fun _ _ _ h => h) (Or.inl ⟨by rfl, ?_⟩) (by assumption) ?_; rotate_left; focus (intro w hSw; (try dsimp only at hSw); go_simp; (try with_reducible rfl)))
        | refine wpAnyH_take (i := 48) (oi := { dst := some 94, op := Op.move (Operand.tmp 93), type := 4, pos := "law.go:33", after := #[{ on := 47, ground := Ground.data }, { on := 41, ground := Ground.chain }], guard := none }) (v := undef) rfl (by kernel_rfl) (by kernel_rfl) (by kernel_rfl) (fun _ _ _ h => h) (Or.inr ⟨by rfl, rfl⟩) (by assumption) ?_
      try simp only [Act.put, List.setIfInBounds_toArray, List.set_cons_zero, List.set_cons_succ]
      first
        | (refine wpAnyH_take (i := 49) (oi := { dst := some 95, op := Op.move (Operand.tmp 9), type := 4, pos := "law.go:33", after := #[{ on := 48, ground := Ground.guard }], guard := some (48, true) }) (v := ?_) rfl (by kernel_rfl) (by kernel_rfl) (by kernel_rfl) (fun _ _ _ h => h) (Or.inl ⟨by rfl, ?_⟩) (by assumption) ?_; rotate_left; focus (intro w hSw; (try dsimp only at hSw); go_simp; (try with_reducible rfl)))
        | refine wpAnyH_take (i := 49) (oi := { dst := some 95, op := Op.move (Operand.tmp 9), type := 4, pos := "law.go:33", after := #[{ on := 48, ground := Ground.guard }], guard := some (48, true) }) (v := undef) rfl (by kernel_rfl) (by kernel_rfl) (by kernel_rfl) (fun _ _ _ h => h) (Or.inr ⟨by rfl, rfl⟩) (by assumption) ?_
      try simp only [Act.put, List.setIfInBounds_toArray, List.set_cons_zero, List.set_cons_succ]
      first
        | (refine wpAnyH_take (i := 50) (oi := { dst := some 96, op := Op.fieldAddr 25 (Operand.tmp 5) 1, type := 0, pos := "law.go:33", after := #[{ on := 48, ground := Ground.guard }], guard := some (48, true) }) (v := ?_) rfl (by kernel_rfl) (by kernel_rfl) (by kernel_rfl) (fun _ _ _ h => h) (Or.inl ⟨by rfl, ?_⟩) (by assumption) ?_; rotate_left; focus (intro w hSw; (try dsimp only at hSw); go_simp; (try with_reducible rfl)))
        | refine wpAnyH_take (i := 50) (oi := { dst := some 96, op := Op.fieldAddr 25 (Operand.tmp 5) 1, type := 0, pos := "law.go:33", after := #[{ on := 48, ground := Ground.guard }], guard := some (48, true) }) (v := undef) rfl (by kernel_rfl) (by kernel_rfl) (by kernel_rfl) (fun _ _ _ h => h) (Or.inr ⟨by rfl, rfl⟩) (by assumption) ?_
      try simp only [Act.put, List.setIfInBounds_toArray, List.set_cons_zero, List.set_cons_succ]
      first
        | (refine wpAnyH_take (i := 51) (oi := { dst := some 97, op := Op.load 9 (Operand.tmp 96), type := 9, pos := "law.go:33", after := #[{ on := 50, ground := Ground.data }, { on := 48, ground := Ground.guard }], guard := some (48, true) }) (v := ?_) rfl (by kernel_rfl) (by kernel_rfl) (by kernel_rfl) (fun _ _ _ h => h) (Or.inl ⟨by rfl, ?_⟩) (by assumption) ?_; rotate_left; focus (intro w hSw; (try dsimp only at hSw); go_simp; (try with_reducible rfl)))
        | refine wpAnyH_take (i := 51) (oi := { dst := some 97, op := Op.load 9 (Operand.tmp 96), type := 9, pos := "law.go:33", after := #[{ on := 50, ground := Ground.data }, { on := 48, ground := Ground.guard }], guard := some (48, true) }) (v := undef) rfl (by kernel_rfl) (by kernel_rfl) (by kernel_rfl) (fun _ _ _ h => h) (Or.inr ⟨by rfl, rfl⟩) (by assumption) ?_
      try simp only [Act.put, List.setIfInBounds_toArray, List.set_cons_zero, List.set_cons_succ]
      first
        | (refine wpAnyH_take (i := 52) (oi := { dst := some 98, op := Op.binOp BinOp.neq 9 (Operand.tmp 97) (Operand.const (Value.string { data := #[] })) 9, type := 4, pos := "law.go:33", after := #[{ on := 51, ground := Ground.data }, { on := 48, ground := Ground.guard }], guard := some (48, true) }) (v := ?_) rfl (by kernel_rfl) (by kernel_rfl) (by kernel_rfl) (fun _ _ _ h => h) (Or.inl ⟨by rfl, ?_⟩) (by assumption) ?_; rotate_left; focus (intro w hSw; (try dsimp only at hSw); go_simp; (try with_reducible rfl)))
        | refine wpAnyH_take (i := 52) (oi := { dst := some 98, op := Op.binOp BinOp.neq 9 (Operand.tmp 97) (Operand.const (Value.string { data := #[] })) 9, type := 4, pos := "law.go:33", after := #[{ on := 51, ground := Ground.data }, { on := 48, ground := Ground.guard }], guard := some (48, true) }) (v := undef) rfl (by kernel_rfl) (by kernel_rfl) (by kernel_rfl) (fun _ _ _ h => h) (Or.inr ⟨by rfl, rfl⟩) (by assumption) ?_
      try simp only [Act.put, List.setIfInBounds_toArray, List.set_cons_zero, List.set_cons_succ]
      first
        | (refine wpAnyH_take (i := 53) (oi := { dst := some 99, op := Op.move (Operand.tmp 98), type := 4, pos := "law.go:33", after := #[{ on := 52, ground := Ground.data }, { on := 48, ground := Ground.chain }, { on := 48, ground := Ground.guard }], guard := some (48, true) }) (v := ?_) rfl (by kernel_rfl) (by kernel_rfl) (by kernel_rfl) (fun _ _ _ h => h) (Or.inl ⟨by rfl, ?_⟩) (by assumption) ?_; rotate_left; focus (intro w hSw; (try dsimp only at hSw); go_simp; (try with_reducible rfl)))
        | refine wpAnyH_take (i := 53) (oi := { dst := some 99, op := Op.move (Operand.tmp 98), type := 4, pos := "law.go:33", after := #[{ on := 52, ground := Ground.data }, { on := 48, ground := Ground.chain }, { on := 48, ground := Ground.guard }], guard := some (48, true) }) (v := undef) rfl (by kernel_rfl) (by kernel_rfl) (by kernel_rfl) (fun _ _ _ h => h) (Or.inr ⟨by rfl, rfl⟩) (by assumption) ?_
      try simp only [Act.put, List.setIfInBounds_toArray, List.set_cons_zero, List.set_cons_succ]
      first
        | (refine wpAnyH_take (i := 54) (oi := { dst := some 100, op := Op.move (Operand.tmp 0), type := 3, pos := "law.go:33", after := #[{ on := 53, ground := Ground.guard }], guard := some (53, true) }) (v := ?_) rfl (by kernel_rfl) (by kernel_rfl) (by kernel_rfl) (fun _ _ _ h => h) (Or.inl ⟨by rfl, ?_⟩) (by assumption) ?_; rotate_left; focus (intro w hSw; (try dsimp only at hSw); go_simp; (try with_reducible rfl)))
        | refine wpAnyH_take (i := 54) (oi := { dst := some 100, op := Op.move (Operand.tmp 0), type := 3, pos := "law.go:33", after := #[{ on := 53, ground := Ground.guard }], guard := some (53, true) }) (v := undef) rfl (by kernel_rfl) (by kernel_rfl) (by kernel_rfl) (fun _ _ _ h => h) (Or.inr ⟨by rfl, rfl⟩) (by assumption) ?_
      try simp only [Act.put, List.setIfInBounds_toArray, List.set_cons_zero, List.set_cons_succ]
      first
        | (refine wpAnyH_take (i := 55) (oi := { dst := some 101, op := Op.binOp BinOp.neq 3 (Operand.tmp 100) (Operand.const (Value.int IntKind.i64 19)) 3, type := 4, pos := "law.go:33", after := #[{ on := 54, ground := Ground.data }, { on := 53, ground := Ground.guard }], guard := some (53, true) }) (v := ?_) rfl (by kernel_rfl) (by kernel_rfl) (by kernel_rfl) (fun _ _ _ h => h) (Or.inl ⟨by rfl, ?_⟩) (by assumption) ?_; rotate_left; focus (intro w hSw; (try dsimp only at hSw); go_simp; (try with_reducible rfl)))
        | refine wpAnyH_take (i := 55) (oi := { dst := some 101, op := Op.binOp BinOp.neq 3 (Operand.tmp 100) (Operand.const (Value.int IntKind.i64 19)) 3, type := 4, pos := "law.go:33", after := #[{ on := 54, ground := Ground.data }, { on := 53, ground := Ground.guard }], guard := some (53, true) }) (v := undef) rfl (by kernel_rfl) (by kernel_rfl) (by kernel_rfl) (fun _ _ _ h => h) (Or.inr ⟨by rfl, rfl⟩) (by assumption) ?_
      try simp only [Act.put, List.setIfInBounds_toArray, List.set_cons_zero, List.set_cons_succ]
      first
        | (refine wpAnyH_take (i := 56) (oi := { dst := some 102, op := Op.pick (Operand.tmp 99) (Operand.tmp 101) (Operand.const (Value.bool false)), type := 4, pos := "law.go:33", after := #[{ on := 53, ground := Ground.data }, { on := 55, ground := Ground.data }, { on := 48, ground := Ground.guard }], guard := some (48, true) }) (v := ?_) rfl (by kernel_rfl) (by kernel_rfl) (by kernel_rfl) (fun _ _ _ h => h) (Or.inl ⟨by rfl, ?_⟩) (by assumption) ?_; rotate_left; focus (intro w hSw; (try dsimp only at hSw); go_simp; (try with_reducible rfl)))
        | refine wpAnyH_take (i := 56) (oi := { dst := some 102, op := Op.pick (Operand.tmp 99) (Operand.tmp 101) (Operand.const (Value.bool false)), type := 4, pos := "law.go:33", after := #[{ on := 53, ground := Ground.data }, { on := 55, ground := Ground.data }, { on := 48, ground := Ground.guard }], guard := some (48, true) }) (v := undef) rfl (by kernel_rfl) (by kernel_rfl) (by kernel_rfl) (fun _ _ _ h => h) (Or.inr ⟨by rfl, rfl⟩) (by assumption) ?_
      try simp only [Act.put, List.setIfInBounds_toArray, List.set_cons_zero, List.set_cons_succ]
      first
        | (refine wpAnyH_take (i := 57) (oi := { dst := some 103, op := Op.binOp BinOp.eql 4 (Operand.tmp 95) (Operand.tmp 102) 4, type := 4, pos := "law.go:33", after := #[{ on := 49, ground := Ground.data }, { on := 56, ground := Ground.data }, { on := 48, ground := Ground.guard }], guard := some (48, true) }) (v := ?_) rfl (by kernel_rfl) (by kernel_rfl) (by kernel_rfl) (fun _ _ _ h => h) (Or.inl ⟨by rfl, ?_⟩) (by assumption) ?_; rotate_left; focus (intro w hSw; (try dsimp only at hSw); go_simp; (try with_reducible rfl)))
        | refine wpAnyH_take (i := 57) (oi := { dst := some 103, op := Op.binOp BinOp.eql 4 (Operand.tmp 95) (Operand.tmp 102) 4, type := 4, pos := "law.go:33", after := #[{ on := 49, ground := Ground.data }, { on := 56, ground := Ground.data }, { on := 48, ground := Ground.guard }], guard := some (48, true) }) (v := undef) rfl (by kernel_rfl) (by kernel_rfl) (by kernel_rfl) (fun _ _ _ h => h) (Or.inr ⟨by rfl, rfl⟩) (by assumption) ?_
      try simp only [Act.put, List.setIfInBounds_toArray, List.set_cons_zero, List.set_cons_succ]
      first
        | (refine wpAnyH_take (i := 58) (oi := { dst := some 104, op := Op.pick (Operand.tmp 94) (Operand.tmp 103) (Operand.const (Value.bool false)), type := 4, pos := "law.go:33", after := #[{ on := 48, ground := Ground.data }, { on := 57, ground := Ground.data }], guard := none }) (v := ?_) rfl (by kernel_rfl) (by kernel_rfl) (by kernel_rfl) (fun _ _ _ h => h) (Or.inl ⟨by rfl, ?_⟩) (by assumption) ?_; rotate_left; focus (intro w hSw; (try dsimp only at hSw); go_simp; (try with_reducible rfl)))
        | refine wpAnyH_take (i := 58) (oi := { dst := some 104, op := Op.pick (Operand.tmp 94) (Operand.tmp 103) (Operand.const (Value.bool false)), type := 4, pos := "law.go:33", after := #[{ on := 48, ground := Ground.data }, { on := 57, ground := Ground.data }], guard := none }) (v := undef) rfl (by kernel_rfl) (by kernel_rfl) (by kernel_rfl) (fun _ _ _ h => h) (Or.inr ⟨by rfl, rfl⟩) (by assumption) ?_
      try simp only [Act.put, List.setIfInBounds_toArray, List.set_cons_zero, List.set_cons_succ]
      first
        | (refine wpAnyH_take (i := 59) (oi := { dst := some 105, op := Op.move (Operand.tmp 104), type := 4, pos := "law.go:33", after := #[{ on := 58, ground := Ground.data }, { on := 53, ground := Ground.chain }], guard := none }) (v := ?_) rfl (by kernel_rfl) (by kernel_rfl) (by kernel_rfl) (fun _ _ _ h => h) (Or.inl ⟨by rfl, ?_⟩) (by assumption) ?_; rotate_left; focus (intro w hSw; (try dsimp only at hSw); go_simp; (try with_reducible rfl)))
        | refine wpAnyH_take (i := 59) (oi := { dst := some 105, op := Op.move (Operand.tmp 104), type := 4, pos := "law.go:33", after := #[{ on := 58, ground := Ground.data }, { on := 53, ground := Ground.chain }], guard := none }) (v := undef) rfl (by kernel_rfl) (by kernel_rfl) (by kernel_rfl) (fun _ _ _ h => h) (Or.inr ⟨by rfl, rfl⟩) (by assumption) ?_
      try simp only [Act.put, List.setIfInBounds_toArray, List.set_cons_zero, List.set_cons_succ]
      first
        | (refine wpAnyH_take (i := 60) (oi := { dst := some 106, op := Op.move (Operand.tmp 0), type := 3, pos := "law.go:33", after := #[{ on := 59, ground := Ground.guard }], guard := some (59, true) }) (v := ?_) rfl (by kernel_rfl) (by kernel_rfl) (by kernel_rfl) (fun _ _ _ h => h) (Or.inl ⟨by rfl, ?_⟩) (by assumption) ?_; rotate_left; focus (intro w hSw; (try dsimp only at hSw); go_simp; (try with_reducible rfl)))
        | refine wpAnyH_take (i := 60) (oi := { dst := some 106, op := Op.move (Operand.tmp 0), type := 3, pos := "law.go:33", after := #[{ on := 59, ground := Ground.guard }], guard := some (59, true) }) (v := undef) rfl (by kernel_rfl) (by kernel_rfl) (by kernel_rfl) (fun _ _ _ h => h) (Or.inr ⟨by rfl, rfl⟩) (by assumption) ?_
      try simp only [Act.put, List.setIfInBounds_toArray, List.set_cons_zero, List.set_cons_succ]
      first
        | (refine wpAnyH_take (i := 61) (oi := { dst := some 107, op := Op.move (Operand.tmp 1), type := 3, pos := "law.go:33", after := #[{ on := 59, ground := Ground.guard }], guard := some (59, true) }) (v := ?_) rfl (by kernel_rfl) (by kernel_rfl) (by kernel_rfl) (fun _ _ _ h => h) (Or.inl ⟨by rfl, ?_⟩) (by assumption) ?_; rotate_left; focus (intro w hSw; (try dsimp only at hSw); go_simp; (try with_reducible rfl)))
        | refine wpAnyH_take (i := 61) (oi := { dst := some 107, op := Op.move (Operand.tmp 1), type := 3, pos := "law.go:33", after := #[{ on := 59, ground := Ground.guard }], guard := some (59, true) }) (v := undef) rfl (by kernel_rfl) (by kernel_rfl) (by kernel_rfl) (fun _ _ _ h => h) (Or.inr ⟨by rfl, rfl⟩) (by assumption) ?_
      try simp only [Act.put, List.setIfInBounds_toArray, List.set_cons_zero, List.set_cons_succ]
      first
        | (refine wpAnyH_take (i := 63) (oi := { dst := some 109, op := Op.move (Operand.tmp 11), type := 3, pos := "law.go:33", after := #[{ on := 59, ground := Ground.guard }], guard := some (59, true) }) (v := ?_) rfl (by kernel_rfl) (by kernel_rfl) (by kernel_rfl) (fun _ _ _ h => h) (Or.inl ⟨by rfl, ?_⟩) (by assumption) ?_; rotate_left; focus (intro w hSw; (try dsimp only at hSw); go_simp; (try with_reducible rfl)))
        | refine wpAnyH_take (i := 63) (oi := { dst := some 109, op := Op.move (Operand.tmp 11), type := 3, pos := "law.go:33", after := #[{ on := 59, ground := Ground.guard }], guard := some (59, true) }) (v := undef) rfl (by kernel_rfl) (by kernel_rfl) (by kernel_rfl) (fun _ _ _ h => h) (Or.inr ⟨by rfl, rfl⟩) (by assumption) ?_
      try simp only [Act.put, List.setIfInBounds_toArray, List.set_cons_zero, List.set_cons_succ]
      refine wpAnyH_ready (rs := [62]) (by kernel_rfl) (by simp) ?_
      refine AllReadyH.cons (o := { dst := some 108, op := Op.call { callee := Callee.value (Operand.func 14), args := #[Operand.tmp 106, Operand.tmp 107], argTypes := #[3, 3] }, type := 3, pos := "law.go:33", after := #[{ on := 60, ground := Ground.data }, { on := 61, ground := Ground.data }, { on := 59, ground := Ground.chain }, { on := 59, ground := Ground.guard }], guard := some (59, true) }) rfl (fun K hK => ?_) AllReadyH.nil
      go_simp
      (first | (go_at_call 10; (with_reducible refine (IS.out _).mono ?_); rintro e w' ⟨rfl, hbS_⟩) | (go_at_call 11; (with_reducible refine (NM.out _).mono ?_); rintro e w' ⟨rfl, hbS_⟩) | (go_at_call 12; (with_reducible refine (MC.out _).mono ?_); rintro e w' ⟨rfl, hbS_⟩) | (go_at_call 13; (with_reducible refine (LA.out _).mono ?_); rintro e w' ⟨rfl, hbS_⟩) | (go_at_call 14; (with_reducible refine (LB.out _).mono ?_); rintro e w' ⟨rfl, hbS_⟩) | (go_at_call 6; (with_reducible refine (WK.out _).mono ?_); rintro e w' ⟨rfl, hbS_⟩))
      refine hK.out _ _ ?_ (fun hHeld6 => ?_)
      · (try dsimp only); ((go_split_ands; first | exact ss_to (below_drew (Below.refl _ _)) (by assumption) (by assumption) (by assumption) (by assumption) (by assumption) (by assumption) | exact ss_to (pw_below_drewN (Below.refl _ _) _) (by assumption) (by assumption) (by assumption) (by assumption) (by assumption) (by assumption) | exact ss_to hbS_ (by assumption) (by assumption) (by assumption) (by assumption) (by assumption) (by assumption) | exact ss_to (Below.refl _ _) (by assumption) (by assumption) (by assumption) (by assumption) (by assumption) (by assumption)))
      clear hK K hHeld5
      try simp only [Act.put, List.setIfInBounds_toArray, List.set_cons_zero, List.set_cons_succ]
      first
        | (refine wpAnyH_take (i := 64) (oi := { dst := some 110, op := Op.binOp BinOp.eql 3 (Operand.tmp 108) (Operand.tmp 109) 3, type := 4, pos := "law.go:33", after := #[{ on := 62, ground := Ground.data }, { on := 63, ground := Ground.data }, { on := 59, ground := Ground.guard }], guard := some (59, true) }) (v := ?_) rfl (by kernel_rfl) (by kernel_rfl) (by kernel_rfl) (fun _ _ _ h => h) (Or.inl ⟨by rfl, ?_⟩) (by assumption) ?_; rotate_left; focus (intro w hSw; (try dsimp only at hSw); go_simp; (try with_reducible rfl)))
        | refine wpAnyH_take (i := 64) (oi := { dst := some 110, op := Op.binOp BinOp.eql 3 (Operand.tmp 108) (Operand.tmp 109) 3, type := 4, pos := "law.go:33", after := #[{ on := 62, ground := Ground.data }, { on := 63, ground := Ground.data }, { on := 59, ground := Ground.guard }], guard := some (59, true) }) (v := undef) rfl (by kernel_rfl) (by kernel_rfl) (by kernel_rfl) (fun _ _ _ h => h) (Or.inr ⟨by rfl, rfl⟩) (by assumption) ?_
      try simp only [Act.put, List.setIfInBounds_toArray, List.set_cons_zero, List.set_cons_succ]
      first
        | (refine wpAnyH_take (i := 65) (oi := { dst := some 111, op := Op.pick (Operand.tmp 105) (Operand.tmp 110) (Operand.const (Value.bool false)), type := 4, pos := "law.go:33", after := #[{ on := 59, ground := Ground.data }, { on := 64, ground := Ground.data }], guard := none }) (v := ?_) rfl (by kernel_rfl) (by kernel_rfl) (by kernel_rfl) (fun _ _ _ h => h) (Or.inl ⟨by rfl, ?_⟩) (by assumption) ?_; rotate_left; focus (intro w hSw; (try dsimp only at hSw); go_simp; (try with_reducible rfl)))
        | refine wpAnyH_take (i := 65) (oi := { dst := some 111, op := Op.pick (Operand.tmp 105) (Operand.tmp 110) (Operand.const (Value.bool false)), type := 4, pos := "law.go:33", after := #[{ on := 59, ground := Ground.data }, { on := 64, ground := Ground.data }], guard := none }) (v := undef) rfl (by kernel_rfl) (by kernel_rfl) (by kernel_rfl) (fun _ _ _ h => h) (Or.inr ⟨by rfl, rfl⟩) (by assumption) ?_
      try simp only [Act.put, List.setIfInBounds_toArray, List.set_cons_zero, List.set_cons_succ]
      first
        | (refine wpAnyH_take (i := 66) (oi := { dst := some 112, op := Op.move (Operand.tmp 111), type := 4, pos := "law.go:33", after := #[{ on := 65, ground := Ground.data }, { on := 62, ground := Ground.chain }], guard := none }) (v := ?_) rfl (by kernel_rfl) (by kernel_rfl) (by kernel_rfl) (fun _ _ _ h => h) (Or.inl ⟨by rfl, ?_⟩) (by assumption) ?_; rotate_left; focus (intro w hSw; (try dsimp only at hSw); go_simp; (try with_reducible rfl)))
        | refine wpAnyH_take (i := 66) (oi := { dst := some 112, op := Op.move (Operand.tmp 111), type := 4, pos := "law.go:33", after := #[{ on := 65, ground := Ground.data }, { on := 62, ground := Ground.chain }], guard := none }) (v := undef) rfl (by kernel_rfl) (by kernel_rfl) (by kernel_rfl) (fun _ _ _ h => h) (Or.inr ⟨by rfl, rfl⟩) (by assumption) ?_
      try simp only [Act.put, List.setIfInBounds_toArray, List.set_cons_zero, List.set_cons_succ]
      refine wpAnyH_ready (rs := [67]) (by kernel_rfl) (by simp) ?_
      refine AllReadyH.cons (o := { dst := some 113, op := Op.call { callee := Callee.value (Operand.func 6), args := #[], argTypes := #[] }, type := 4, pos := "law.go:33", after := #[{ on := 66, ground := Ground.chain }, { on := 66, ground := Ground.guard }], guard := some (66, true) }) rfl (fun K hK => ?_) AllReadyH.nil
      go_simp
      (first | (go_at_call 10; (with_reducible refine (IS.out _).mono ?_); rintro e w' ⟨rfl, hbS_⟩) | (go_at_call 11; (with_reducible refine (NM.out _).mono ?_); rintro e w' ⟨rfl, hbS_⟩) | (go_at_call 12; (with_reducible refine (MC.out _).mono ?_); rintro e w' ⟨rfl, hbS_⟩) | (go_at_call 13; (with_reducible refine (LA.out _).mono ?_); rintro e w' ⟨rfl, hbS_⟩) | (go_at_call 14; (with_reducible refine (LB.out _).mono ?_); rintro e w' ⟨rfl, hbS_⟩) | (go_at_call 6; (with_reducible refine (WK.out _).mono ?_); rintro e w' ⟨rfl, hbS_⟩))
      refine hK.out _ _ ?_ (fun hHeld7 => ?_)
      · (try dsimp only); ((go_split_ands; first | exact ss_to (below_drew (Below.refl _ _)) (by assumption) (by assumption) (by assumption) (by assumption) (by assumption) (by assumption) | exact ss_to (pw_below_drewN (Below.refl _ _) _) (by assumption) (by assumption) (by assumption) (by assumption) (by assumption) (by assumption) | exact ss_to hbS_ (by assumption) (by assumption) (by assumption) (by assumption) (by assumption) (by assumption) | exact ss_to (Below.refl _ _) (by assumption) (by assumption) (by assumption) (by assumption) (by assumption) (by assumption)))
      clear hK K hHeld6
      try simp only [Act.put, List.setIfInBounds_toArray, List.set_cons_zero, List.set_cons_succ]
      first
        | (refine wpAnyH_take (i := 68) (oi := { dst := some 114, op := Op.pick (Operand.tmp 112) (Operand.tmp 113) (Operand.const (Value.bool false)), type := 4, pos := "law.go:33", after := #[{ on := 66, ground := Ground.data }, { on := 67, ground := Ground.data }], guard := none }) (v := ?_) rfl (by kernel_rfl) (by kernel_rfl) (by kernel_rfl) (fun _ _ _ h => h) (Or.inl ⟨by rfl, ?_⟩) (by assumption) ?_; rotate_left; focus (intro w hSw; (try dsimp only at hSw); go_simp; (try with_reducible rfl)))
        | refine wpAnyH_take (i := 68) (oi := { dst := some 114, op := Op.pick (Operand.tmp 112) (Operand.tmp 113) (Operand.const (Value.bool false)), type := 4, pos := "law.go:33", after := #[{ on := 66, ground := Ground.data }, { on := 67, ground := Ground.data }], guard := none }) (v := undef) rfl (by kernel_rfl) (by kernel_rfl) (by kernel_rfl) (fun _ _ _ h => h) (Or.inr ⟨by rfl, rfl⟩) (by assumption) ?_
      try simp only [Act.put, List.setIfInBounds_toArray, List.set_cons_zero, List.set_cons_succ]
      first
        | (refine wpAnyH_take (i := 69) (oi := { dst := some 4, op := Op.assign (Operand.tmp 114), type := 4, pos := "law.go:33", after := #[{ on := 68, ground := Ground.data }, { on := 67, ground := Ground.chain }, { on := 0, ground := Ground.phase }, { on := 1, ground := Ground.phase }, { on := 2, ground := Ground.phase }, { on := 3, ground := Ground.phase }, { on := 4, ground := Ground.phase }, { on := 5, ground := Ground.phase }, { on := 6, ground := Ground.phase }, { on := 7, ground := Ground.phase }, { on := 8, ground := Ground.phase }, { on := 9, ground := Ground.phase }, { on := 10, ground := Ground.phase }, { on := 11, ground := Ground.phase }, { on := 12, ground := Ground.phase }, { on := 13, ground := Ground.phase }, { on := 14, ground := Ground.phase }, { on := 15, ground := Ground.phase }, { on := 16, ground := Ground.phase }, { on := 17, ground := Ground.phase }, { on := 18, ground := Ground.phase }, { on := 19, ground := Ground.phase }, { on := 20, ground := Ground.phase }, { on := 21, ground := Ground.phase }, { on := 22, ground := Ground.phase }, { on := 23, ground := Ground.phase }, { on := 24, ground := Ground.phase }, { on := 25, ground := Ground.phase }, { on := 26, ground := Ground.phase }, { on := 27, ground := Ground.phase }, { on := 28, ground := Ground.phase }, { on := 29, ground := Ground.phase }, { on := 30, ground := Ground.phase }, { on := 31, ground := Ground.phase }, { on := 32, ground := Ground.phase }, { on := 33, ground := Ground.phase }, { on := 34, ground := Ground.phase }, { on := 35, ground := Ground.phase }, { on := 36, ground := Ground.phase }, { on := 37, ground := Ground.phase }, { on := 38, ground := Ground.phase }, { on := 39, ground := Ground.phase }, { on := 40, ground := Ground.phase }, { on := 41, ground := Ground.phase }, { on := 42, ground := Ground.phase }, { on := 43, ground := Ground.phase }, { on := 44, ground := Ground.phase }, { on := 45, ground := Ground.phase }, { on := 46, ground := Ground.phase }, { on := 47, ground := Ground.phase }, { on := 48, ground := Ground.phase }, { on := 49, ground := Ground.phase }, { on := 50, ground := Ground.phase }, { on := 51, ground := Ground.phase }, { on := 52, ground := Ground.phase }, { on := 53, ground := Ground.phase }, { on := 54, ground := Ground.phase }, { on := 55, ground := Ground.phase }, { on := 56, ground := Ground.phase }, { on := 57, ground := Ground.phase }, { on := 58, ground := Ground.phase }, { on := 59, ground := Ground.phase }, { on := 60, ground := Ground.phase }, { on := 61, ground := Ground.phase }, { on := 62, ground := Ground.phase }, { on := 63, ground := Ground.phase }, { on := 64, ground := Ground.phase }, { on := 65, ground := Ground.phase }, { on := 66, ground := Ground.phase }, { on := 67, ground := Ground.phase }, { on := 68, ground := Ground.phase }], guard := none }) (v := ?_) rfl (by kernel_rfl) (by kernel_rfl) (by kernel_rfl) (fun _ _ _ h => h) (Or.inl ⟨by rfl, ?_⟩) (by assumption) ?_; rotate_left; focus (intro w hSw; (try dsimp only at hSw); go_simp; (try with_reducible rfl)))
        | refine wpAnyH_take (i := 69) (oi := { dst := some 4, op := Op.assign (Operand.tmp 114), type := 4, pos := "law.go:33", after := #[{ on := 68, ground := Ground.data }, { on := 67, ground := Ground.chain }, { on := 0, ground := Ground.phase }, { on := 1, ground := Ground.phase }, { on := 2, ground := Ground.phase }, { on := 3, ground := Ground.phase }, { on := 4, ground := Ground.phase }, { on := 5, ground := Ground.phase }, { on := 6, ground := Ground.phase }, { on := 7, ground := Ground.phase }, { on := 8, ground := Ground.phase }, { on := 9, ground := Ground.phase }, { on := 10, ground := Ground.phase }, { on := 11, ground := Ground.phase }, { on := 12, ground := Ground.phase }, { on := 13, ground := Ground.phase }, { on := 14, ground := Ground.phase }, { on := 15, ground := Ground.phase }, { on := 16, ground := Ground.phase }, { on := 17, ground := Ground.phase }, { on := 18, ground := Ground.phase }, { on := 19, ground := Ground.phase }, { on := 20, ground := Ground.phase }, { on := 21, ground := Ground.phase }, { on := 22, ground := Ground.phase }, { on := 23, ground := Ground.phase }, { on := 24, ground := Ground.phase }, { on := 25, ground := Ground.phase }, { on := 26, ground := Ground.phase }, { on := 27, ground := Ground.phase }, { on := 28, ground := Ground.phase }, { on := 29, ground := Ground.phase }, { on := 30, ground := Ground.phase }, { on := 31, ground := Ground.phase }, { on := 32, ground := Ground.phase }, { on := 33, ground := Ground.phase }, { on := 34, ground := Ground.phase }, { on := 35, ground := Ground.phase }, { on := 36, ground := Ground.phase }, { on := 37, ground := Ground.phase }, { on := 38, ground := Ground.phase }, { on := 39, ground := Ground.phase }, { on := 40, ground := Ground.phase }, { on := 41, ground := Ground.phase }, { on := 42, ground := Ground.phase }, { on := 43, ground := Ground.phase }, { on := 44, ground := Ground.phase }, { on := 45, ground := Ground.phase }, { on := 46, ground := Ground.phase }, { on := 47, ground := Ground.phase }, { on := 48, ground := Ground.phase }, { on := 49, ground := Ground.phase }, { on := 50, ground := Ground.phase }, { on := 51, ground := Ground.phase }, { on := 52, ground := Ground.phase }, { on := 53, ground := Ground.phase }, { on := 54, ground := Ground.phase }, { on := 55, ground := Ground.phase }, { on := 56, ground := Ground.phase }, { on := 57, ground := Ground.phase }, { on := 58, ground := Ground.phase }, { on := 59, ground := Ground.phase }, { on := 60, ground := Ground.phase }, { on := 61, ground := Ground.phase }, { on := 62, ground := Ground.phase }, { on := 63, ground := Ground.phase }, { on := 64, ground := Ground.phase }, { on := 65, ground := Ground.phase }, { on := 66, ground := Ground.phase }, { on := 67, ground := Ground.phase }, { on := 68, ground := Ground.phase }], guard := none }) (v := undef) rfl (by kernel_rfl) (by kernel_rfl) (by kernel_rfl) (fun _ _ _ h => h) (Or.inr ⟨by rfl, rfl⟩) (by assumption) ?_
      try simp only [Act.put, List.setIfInBounds_toArray, List.set_cons_zero, List.set_cons_succ]
      refine wpAnyH_done (by kernel_rfl) ?_ _
      go_wp2
      go_ret
      exact ⟨rfl, by go_split_ands; exact Aside0.out (by assumption)⟩
end Go.Proofs.Ytnlemjfkgbgogaa.Tbl
