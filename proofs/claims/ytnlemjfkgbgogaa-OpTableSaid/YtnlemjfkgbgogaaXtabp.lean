/- The statement OpTable, walked: what its cases share. -/
import Derived.Test.YtnlemjfkgbgogaaXtable
namespace Go.Proofs.Ytnlemjfkgbgogaa.Tbl
open Go.RowKit Go.Proofs.Ytnlemjfkgbgogaa.P Go.Proofs.YtnlemjfkgbgogaaW.PrintWords Go.Proofs.YtnlemjfkgbgogaaW.PrintLast Go.Proofs.YtnlemjfkgbgogaaW.PrintMore
set_option linter.unusedVariables false
set_option linter.unusedSimpArgs false
theorem empty_bytes (b : ByteArray) : b.toList = ([] : List UInt8) ↔ b = ⟨#[]⟩ := by
  rw [Go.ByteArray.toList_eq]
  obtain ⟨⟨l⟩⟩ := b
  constructor
  · intro h
    have h : l = [] := h
    rw [h]
  · intro h
    have h := congrArg (fun x => x.data.toList) h
    exact h
theorem empty_beq (b : ByteArray) (h : b = ⟨#[]⟩) : (b.toList == ([] : List UInt8)) = true := beq_iff_eq.mpr ((empty_bytes b).mpr h)
theorem empty_bne (b : ByteArray) (h : b ≠ ⟨#[]⟩) : (b.toList == ([] : List UInt8)) = false := beq_eq_false_iff_ne.mpr (fun e => h ((empty_bytes b).mp e))
theorem ss_to {w W W' : World} {b0 : Nat} {v0 v1 v2 v3 v4 : Value} (hb : Below W.heap.size W W') (c0 : W.cell? ⟨b0, 0, none⟩ = some v0) (c1 : W.cell? ⟨b0, 1, none⟩ = some v1) (c2 : W.cell? ⟨b0, 2, none⟩ = some v2) (c3 : W.cell? ⟨b0, 3, none⟩ = some v3) (c4 : W.cell? ⟨b0, 4, none⟩ = some v4) (hB : Aside0 (Below w.heap.size w W)) :
    W'.cell? ⟨b0, 0, none⟩ = some v0 ∧ W'.cell? ⟨b0, 1, none⟩ = some v1 ∧ W'.cell? ⟨b0, 2, none⟩ = some v2 ∧ W'.cell? ⟨b0, 3, none⟩ = some v3 ∧ W'.cell? ⟨b0, 4, none⟩ = some v4 ∧ Aside0 (Below w.heap.size w W') :=
  ⟨pw_cell_below hb c0, pw_cell_below hb c1, pw_cell_below hb c2, pw_cell_below hb c3, pw_cell_below hb c4, ⟨below_step hB.out hb⟩⟩
theorem works_c (W : World) : Calls Try.prog 6 #[] W fun e w' => e = .returned (.bool true) ∧ Below W.heap.size W w' := dyehouselaw11_works.calls 64 true W Pure.works_ok
set_option maxHeartbeats 4000000 in
set_option maxRecDepth 100000 in
theorem table_out (n c : Int) (h : c < 0 ∨ 4096 < c) (w : World) : Calls Try.prog 3 #[.int .i64 n, .int .i64 c] w fun e w' => e = .returned (.bool true) ∧ Below w.heap.size w w' := by
  rcases Int.lt_or_le c 0 with h1 | h1
  · go_enter Try.func3, Try.ntmps3
    go_wp2_with (go_at_call 6; (with_reducible refine (works_c _).mono ?_); rintro e w' ⟨rfl, hb⟩)
    go_ret
    exact ⟨rfl, hb⟩
  · have h2 : 4096 < c := by omega
    go_enter Try.func3, Try.ntmps3
    go_wp2_with (go_at_call 6; (with_reducible refine (works_c _).mono ?_); rintro e w' ⟨rfl, hb⟩)
    go_ret
    exact ⟨rfl, hb⟩
end Go.Proofs.Ytnlemjfkgbgogaa.Tbl
