/- The statement DomWays, where what it reads is not too much: for every such input it returns true, and leaves its arguments as they were. -/
import Derived.Test.YticjemfgbfphdaaRows
import Derived.Test.YticjemfgbfphdaaXoa
import Derived.Test.YticjemfgbfphdaaXj
import Derived.WalkKit
import Derived.ProofKit
import Derived.OpenShut
import Derived.ShutString
import Derived.ChangeOld
import Derived.Below
import Derived.JoinedCond
namespace Go.Proofs.Yticjemfgbfphdaa.domWays
open Go.ChangeShapes Go.WideShapes Go.ChangeAt Go.RowKit Go.AM Go.Proofs.Yticjemfgbfphdaa.X
open Go.ChangeMaps (open_string shut_string)
set_option linter.unusedVariables false
theorem own : ownKnob Try.prog.godebug = none := by kernel_rfl
theorem laidOut : laidOutB Try.prog = true := by kernel_rfl
set_option maxRecDepth 100000 in
theorem contract (H : Type) (enc : TypeId × Value → H) (W : World) (base : Nat) (args : Array Value) (ds gs : List (DataW H)) (before : List MemPlace) (hk : Rows.uptoSmall H (ds ++ gs) = true)
    (hval0 : ∀ (j : Nat) t v, Try.f5.params[j]? = some t → args[j]? = some v → Value.okWide Try.prog W .any base t v)
    (hW : DataW.Whole enc Try.prog Try.f5.params.toList Rows.domWaysSpec.vars false W args.toList ds gs before) :
    Calls Try.prog 5 args W fun e W' => ∃ v, e = .returned v ∧ Rows.domWaysSpec.post enc Try.prog Try.f5 false true false false W args v W' := by
  have hW' := hW
  have hval := hval0
  obtain ⟨p, q, hA0, hV, rfl, hfz, hnd⟩ := hW
  have hA : DataW.TrodAll enc Try.prog W 0 (fun _ => true) true Try.f5.params.toList args.toList ds p := hA0
  rw [Try.params5] at hA hval
  obtain ⟨v0, vs0, d0, ds0, p0, q0, hargs, rfl, rfl, h0, r0⟩ := trodAll_cons hA
  obtain ⟨v1, vs1, d1, ds1, p1, q1, rfl, rfl, rfl, h1, r1⟩ := trodAll_cons r0
  obtain ⟨rfl, rfl, rfl⟩ := trodAll_nil r1
  obtain rfl : args = #[v0, v1] := by cases args; simp_all
  obtain ⟨rfl, rfl⟩ := trodVars_none hV
  have hbk : Rows.uptoBulk d0 + Rows.uptoBulk d1 ≤ 1048576 := by
    have z := of_decide_eq_true hk
    simp only [List.cons_append, List.nil_append, Rows.uptoBulkAll] at z
    omega
  have k0 := h0
  have lt0 : ∀ x ∈ p0, x.block < W.heap.size := by obtain ⟨m, hm⟩ := k0; exact DataW.trod_lt m _ _ _ hm
  obtain ⟨cs0, rfl, _⟩ := okWide_struct Try.underlying49 (hval 0 49 v0 rfl rfl)
  obtain ⟨fuel0, hf0⟩ := h0
  obtain ⟨x0, hK0, hm0, hI0⟩ := oa49.opn enc W 0 fuel0 _ _ _ hf0
  have k1 := h1
  have lt1 : ∀ x ∈ p1, x.block < W.heap.size := by obtain ⟨m, hm⟩ := k1; exact DataW.trod_lt m _ _ _ hm
  obtain ⟨aa1, len1, cap1, rfl⟩ := okWide_slice Try.underlying50 (hval 1 50 v1 rfl rfl)
  obtain ⟨fuel1, hf1⟩ := h1
  obtain ⟨x1, hK1, hm1, hI1⟩ := oa50.opn enc W 0 fuel1 _ _ _ hf1
  clear hA0 hval0
  obtain ⟨u1, r1, e0, z1, e1⟩ := hK1
  obtain rfl := (List.cons.inj e0).1
  have hd : x0.Ok := ⟨u8wf hI0.1, u8wf hI0.2.1, u8wf hI0.2.2.1, fun b hb => ⟨fun i hi => ⟨u8wf ((hI0.2.2.2.1 b hb).1.1 i hi).1, u8wf ((hI0.2.2.2.1 b hb).1.1 i hi).2.1, u8wf ((hI0.2.2.2.1 b hb).1.1 i hi).2.2.1, u8wf ((hI0.2.2.2.1 b hb).1.1 i hi).2.2.2.1, i16wf ((hI0.2.2.2.1 b hb).1.1 i hi).2.2.2.2⟩, u8wf (hI0.2.2.2.1 b hb).2.1, u8wf (hI0.2.2.2.1 b hb).2.2.1, u8wf (hI0.2.2.2.1 b hb).2.2.2.1, u8wf (hI0.2.2.2.1 b hb).2.2.2.2⟩⟩
  have hq1 : ∀ l : List DIn, l.length ≤ sumA ma94 l := fun l => by
    induction l with
    | nil => simp
    | cons a l ih =>
      have : 1 ≤ ma94 a := by unfold ma94; omega
      simp only [List.length_cons, sumA]
      omega
  have hq2 : ∀ l : List DBk, sumC l ≤ sumA ma82 l := fun l => by
    induction l with
    | nil => simp [sumC]
    | cons a l ih =>
      have h1 : a.code.length + 1 ≤ ma82 a := by
        have := hq1 a.code
        unfold ma82
        dsimp only
        omega
      simp only [sumC, List.map_cons, List.sum_cons, sumA] at ih ⊢
      omega
  have hsm : sumC x0.blocks ≤ 4000000 := by
    have h1 := hq2 x0.blocks
    have h2 : sumA ma82 x0.blocks ≤ ma49 x0 := by
      unfold ma49
      dsimp only
      omega
    omega
  have htu : ∀ x ∈ x1, 0 ≤ x ∧ x < 256 := fun x hx => u8wf (hI1.1 x hx)
  have walk := ctr_law (C5 x0 hd hsm x1 htu) ⟨Value.agg cs0, _, rfl, ⟨cs0.toList, rfl, hK0⟩, _, _, rfl, z1, rfl⟩
  refine (walk).mono fun e W' ⟨he, bel⟩ => ?_
  subst he
  exact ⟨_, rfl, _, _, _, [], _, [], hW', trodAll_mk1 (shut_bool Try.underlying4 _), (trodAll_cons_mk (Below.trod laidOut (by kernel_rfl) (of_decide_eq_true (by kernel_rfl)) k0 bel lt0) (trodAll_cons_mk (Below.trod laidOut (by kernel_rfl) (of_decide_eq_true (by kernel_rfl)) k1 bel lt1) trodAll_mk0)), rfl, bel.frame _, fun h => by cases h⟩
set_option maxRecDepth 100000 in
theorem lifted (os : Os) (started : os.Started) (H : Type) (enc : TypeId × Value → H) (F : Stop.Interp) :
    ReturnsInHanded {} Try.checked os 5 .any ((Rows.OpenSpec.upto Rows.domWaysSpec).pre6 enc Try.prog Try.f5 Rows.domWaysUptoRow.domain false) (((Rows.OpenSpec.upto Rows.domWaysSpec).at F).post enc Try.prog Try.f5 false true false false) := by
  refine returnsInHanded_of_cond (C := Try.checked) (s := Rows.OpenSpec.upto Rows.domWaysSpec) (k := Rows.uptoSmall) rfl own started (by kernel_rfl) Try.func5
    (OpenSpec.witness (enc := enc) (C := Try.checked) (s := Rows.OpenSpec.upto Rows.domWaysSpec) (k := Rows.uptoSmall) rfl false ⟨#[], #[.agg #[.int .u8 0, .int .u8 0, .int .u8 0, .slice none 0 0], .slice none 0 0], []⟩ 8 (by kernel_rfl) (by kernel_rfl) (by kernel_rfl)
      (x := ([.agg [.lit (.int .u8 0), .lit (.int .u8 0), .lit (.int .u8 0), .nil], .nil], [], [])) (by kernel_rfl) rfl (by kernel_rfl)) ?_
  intro W base args ds gs before hval hW _ hk _
  exact contract H enc W base args ds gs before hk hval hW
theorem over : Rows.domWaysUptoRow.holds Try.pinned (Rows.OpenSpec.upto Rows.domWaysSpec) :=
  OpenClaim.holds_of_cond 5 Try.f5 rfl rfl rfl rfl rfl rfl rfl ⟨rfl, rfl, rfl, rfl, rfl⟩ rfl rfl rfl rfl rfl (by kernel_rfl) Try.func5 (by kernel_rfl)
    (of_decide_eq_true (by kernel_rfl)) (by unfold Func.isWrapper; first | (rw [if_pos (by decide +kernel)]; kernel_rfl) | (rw [if_neg (by decide +kernel)]; exact ⟨rfl, rfl⟩))
    (fun os started H enc _ F => lifted os started H enc F)
theorem proved : Rows.DomWaysUptoSaid := over
#print axioms proved
end Go.Proofs.Yticjemfgbfphdaa.domWays
namespace Go.Proofs.Yticjemfgbfphdaa
/-- The row, under a short name, for the claim. -/
theorem domWaysUpto_holds : Rows.DomWaysUptoSaid := domWays.proved
end Go.Proofs.Yticjemfgbfphdaa
