/- The statement PointTells, where what it reads is not too much: for every such input it returns true, and leaves its arguments as they were. -/
import Derived.Test.YtafpdjdphdhgkaaRows
import Derived.Test.YtafpdjdphdhgkaaXfunc
import Derived.Test.YtafpdjdphdhgkaaXtells
import Derived.Test.YtafpdjdphdhgkaaXopent
import Derived.WalkKit
import Derived.ProofKit
import Derived.OpenShut
import Derived.ShutString
import Derived.ChangeOld
import Derived.Below
import Derived.JoinedCond
namespace Go.Proofs.Ytafpdjdphdhgkaa.pointTells
open Go.ChangeShapes Go.WideShapes Go.ChangeAt Go.RowKit Go.Proofs.Ytafpdjdphdhgkaa.X Go.Proofs.Ytafpdjdphdhgkaa.P Go.Proofs.YtafpdjdphdhgkaaW.PrintWords
open Go.ChangeMaps (open_string shut_string)
set_option linter.unusedVariables false
theorem own : ownKnob Try.prog.godebug = none := by kernel_rfl
theorem laidOut : laidOutB Try.prog = true := by kernel_rfl
theorem contract (H : Type) (enc : TypeId × Value → H) (W : World) (base : Nat) (args : Array Value) (ds gs : List (DataW H)) (before : List MemPlace) (hk : Rows.uptoSmall H (ds ++ gs) = true)
    (hval0 : ∀ (j : Nat) t v, Try.f3.params[j]? = some t → args[j]? = some v → Value.okWide Try.prog W .any base t v)
    (hW : DataW.Whole enc Try.prog Try.f3.params.toList Rows.pointTellsSpec.vars false W args.toList ds gs before) :
    Calls Try.prog 3 args W fun e W' => ∃ v, e = .returned v ∧ Rows.pointTellsSpec.post enc Try.prog Try.f3 false true false false W args v W' := by
  have hW' := hW
  have hval := hval0
  obtain ⟨p, q, hA0, hV, rfl, hfz, hnd⟩ := hW
  have hA : DataW.TrodAll enc Try.prog W 0 (fun _ => true) true Try.f3.params.toList args.toList ds p := hA0
  rw [Try.params3] at hA hval
  obtain ⟨v0, vs0, d0, ds0, p0, q0, hargs, rfl, rfl, h0, r0⟩ := trodAll_cons hA
  obtain ⟨v1, vs1, d1, ds1, p1, q1, rfl, rfl, rfl, h1, r1⟩ := trodAll_cons r0
  obtain ⟨v2, vs2, d2, ds2, p2, q2, rfl, rfl, rfl, h2, r2⟩ := trodAll_cons r1
  obtain ⟨rfl, rfl, rfl⟩ := trodAll_nil r2
  obtain rfl : args = #[v0, v1, v2] := by cases args; simp_all
  obtain ⟨rfl, rfl⟩ := trodVars_none hV
  have hbk : Rows.uptoBulk d0 + Rows.uptoBulk d1 + Rows.uptoBulk d2 ≤ 1048576 := by
    have z := of_decide_eq_true hk
    simp only [List.cons_append, List.nil_append, Rows.uptoBulkAll] at z
    omega
  have k0 := h0
  have lt0 : ∀ x ∈ p0, x.block < W.heap.size := by obtain ⟨m, hm⟩ := k0; exact DataW.trod_lt m _ _ _ hm
  obtain ⟨cs0, rfl, _⟩ := okWide_struct Try.underlying26 (hval 0 26 v0 rfl rfl)
  obtain ⟨fuel0, hf0⟩ := h0
  obtain ⟨x0, hK0, hm0, hI0⟩ := opens26.opn enc W 0 fuel0 _ _ _ hf0
  obtain ⟨a1, rfl, rfl, rfl, w1⟩ := open_int Try.underlying3 (hval 1 3 v1 rfl rfl) h1
  obtain ⟨a2, rfl, rfl, rfl, w2⟩ := open_int Try.underlying3 (hval 2 3 v2 rfl rfl) h2
  clear hA0 hval0
  obtain ⟨A2, c2, A3, c3, A4, c4, he, l2, g2, l3, g3, l4, g4⟩ : ∃ A2 c2 A3 c3 A4 c4, cs0.toList = [.bool x0.f0, .string x0.f1, .slice A2 x0.f2.length c2, .slice A3 x0.f3.length c3, .slice A4 x0.f4.length c4] ∧ x0.f2.length ≤ c2 ∧ Kd.C k74 W A2 x0.f2.length x0.f2 ∧ x0.f3.length ≤ c3 ∧ Kd.C k45 W A3 x0.f3.length x0.f3 ∧ x0.f4.length ≤ c4 ∧ Kd.C k35 W A4 x0.f4.length x0.f4 := func_open hK0
  have hsm := func_small x0 (by omega)
  have e0 : cs0 = #[.bool x0.f0, .string x0.f1, .slice A2 x0.f2.length c2, .slice A3 x0.f3.length c3, .slice A4 x0.f4.length c4] := by
    rw [← Array.toList_inj, he]
  subst e0
  have walk := tells_walk x0.f0 x0.f1 A2 A3 A4 c2 c3 c4 x0.f2 x0.f3 x0.f4 W g2 l2 g3 l3 g4 l4 hsm.1 hsm.2 a1 a2 (by have h_ := w2; simp only [Lit.wf, Bool.and_eq_true, decide_eq_true_eq] at h_; exact Int.le_trans h_.2 (by decide))
  refine (walk).mono fun e W' ⟨he, bel⟩ => ?_
  subst he
  exact ⟨_, rfl, _, _, _, [], _, [], hW', trodAll_mk1 (shut_bool Try.underlying4 _), (trodAll_cons_mk (Below.trod laidOut (by kernel_rfl) (of_decide_eq_true (by kernel_rfl)) k0 bel lt0) (trodAll_cons_mk (shut_int Try.underlying3 w1) (trodAll_cons_mk (shut_int Try.underlying3 w2) trodAll_mk0))), rfl, bel.frame _, fun h => by cases h⟩
set_option maxRecDepth 100000 in
theorem lifted (os : Os) (started : os.Started) (H : Type) (enc : TypeId × Value → H) (F : Stop.Interp) :
    ReturnsInHanded {} Try.checked os 3 .any ((Rows.OpenSpec.upto Rows.pointTellsSpec).pre6 enc Try.prog Try.f3 Rows.pointTellsUptoRow.domain false) (((Rows.OpenSpec.upto Rows.pointTellsSpec).at F).post enc Try.prog Try.f3 false true false false) := by
  refine returnsInHanded_of_cond (C := Try.checked) (s := Rows.OpenSpec.upto Rows.pointTellsSpec) (k := Rows.uptoSmall) rfl own started (by kernel_rfl) Try.func3
    (OpenSpec.witness (enc := enc) (C := Try.checked) (s := Rows.OpenSpec.upto Rows.pointTellsSpec) (k := Rows.uptoSmall) rfl false ⟨#[], #[.agg #[.bool false, .string ByteArray.empty, .slice none 0 0, .slice none 0 0, .slice none 0 0], .int .i64 0, .int .i64 0], []⟩ 8 (by kernel_rfl) (by kernel_rfl) (by kernel_rfl)
      (x := ([.agg [.lit (.bool false), .lit (.string []), .nil, .nil, .nil], .lit (.int .i64 0), .lit (.int .i64 0)], [], [])) (by kernel_rfl) rfl (by kernel_rfl)) ?_
  intro W base args ds gs before hval hW _ hk _
  exact contract H enc W base args ds gs before hk hval hW
theorem over : Rows.pointTellsUptoRow.holds Try.pinned (Rows.OpenSpec.upto Rows.pointTellsSpec) :=
  OpenClaim.holds_of_cond 3 Try.f3 rfl rfl rfl rfl rfl rfl rfl ⟨rfl, rfl, rfl, rfl, rfl⟩ rfl rfl rfl rfl rfl (by kernel_rfl) Try.func3 (by kernel_rfl)
    (of_decide_eq_true (by kernel_rfl)) (by unfold Func.isWrapper; first | (rw [if_pos (by decide +kernel)]; kernel_rfl) | (rw [if_neg (by decide +kernel)]; exact ⟨rfl, rfl⟩))
    (fun os started H enc _ F => lifted os started H enc F)
theorem proved : Rows.PointTellsUptoSaid := over
#print axioms proved
end Go.Proofs.Ytafpdjdphdhgkaa.pointTells
namespace Go.Proofs.Ytafpdjdphdhgkaa
/-- The row, under a short name, for the claim. -/
theorem pointTellsUpto_holds : Rows.PointTellsUptoSaid := pointTells.proved
end Go.Proofs.Ytafpdjdphdhgkaa
