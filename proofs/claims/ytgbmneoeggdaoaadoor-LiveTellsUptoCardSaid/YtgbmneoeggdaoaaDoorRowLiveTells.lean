/- The statement LiveTells, where what it reads is not too much: for every such input it returns true, and leaves its arguments as they were. -/
import Derived.Test.YtgbmneoeggdaoaaDoorRows
import Derived.Test.YtgbmneoeggdaoaaDoorCards
import Derived.Test.YtgbmneoeggdaoaaDoorTie
import Derived.Test.YtgbmneoeggdaoaaDoorXglob
import Derived.Test.YtgbmneoeggdaoaaDoorXoa
import Derived.Test.YtgbmneoeggdaoaaDoorXm
import Derived.SevenTiedAt
import Derived.LaidMore
import Derived.Lay
import Derived.Stop.Joined
import Derived.Deep.DeepHandedRow
import Derived.WalkKit
import Derived.ProofKit
import Derived.OpenShut
import Derived.ShutString
import Derived.ChangeOld
import Derived.Below
import Derived.JoinedCond
namespace Go.Proofs.YtgbmneoeggdaoaaDoor.liveTells
open Go.ChangeShapes Go.WideShapes Go.ChangeAt Go.RowKit Go.AM Go.Proofs.YtgbmneoeggdaoaaDoor.X
open Go.ChangeMaps (open_string shut_string)
set_option linter.unusedVariables false
theorem own : ownKnob Tryd.prog.godebug = none := by kernel_rfl
theorem laidOut : laidOutB Tryd.prog = true := by kernel_rfl
set_option maxRecDepth 100000 in
theorem contract (H : Type) (enc : TypeId × Value → H) (W : World) (base : Nat) (args : Array Value) (ds gs : List (DataW H)) (before : List MemPlace) (hk : Rows.uptoSmall H (ds ++ gs) = true) (hL : laidMetH Tryd.prog X.tabLaid W)
    (hval0 : ∀ (j : Nat) t v, Tryd.f3.params[j]? = some t → args[j]? = some v → Value.okWide Tryd.prog W .any base t v)
    (hW : DataW.Whole enc Tryd.prog Tryd.f3.params.toList Rows.liveTellsSpec.vars false W args.toList ds gs before) :
    Calls Tryd.prog 3 args W fun e W' => ∃ v, e = .returned v ∧ Rows.liveTellsSpec.post enc Tryd.prog Tryd.f3 false true false false W args v W' := by
  have hW' := hW
  have hval := hval0
  obtain ⟨p, q, hA0, hV, rfl, hfz, hnd⟩ := hW
  have hA : DataW.TrodAll enc Tryd.prog W 0 (fun _ => true) true Tryd.f3.params.toList args.toList ds p := hA0
  rw [Tryd.params3] at hA hval
  obtain ⟨v0, vs0, d0, ds0, p0, q0, hargs, rfl, rfl, h0, r0⟩ := trodAll_cons hA
  obtain ⟨v1, vs1, d1, ds1, p1, q1, rfl, rfl, rfl, h1, r1⟩ := trodAll_cons r0
  obtain ⟨v2, vs2, d2, ds2, p2, q2, rfl, rfl, rfl, h2, r2⟩ := trodAll_cons r1
  obtain ⟨rfl, rfl, rfl⟩ := trodAll_nil r2
  obtain rfl : args = #[v0, v1, v2] := by cases args; simp_all
  obtain ⟨rfl, rfl⟩ := trodVars_none hV
  have hbk : Rows.uptoBulk d0 + Rows.uptoBulk d1 + Rows.uptoBulk d2 ≤ 1048576 := by
    have z := of_decide_eq_true hk
    simp only [List.cons_append, List.nil_append, Rows.uptoBulkAll] at z
    omega
  have k0 := h0
  have lt0 : ∀ x ∈ p0, x.block < W.heap.size := by obtain ⟨m, hm⟩ := k0; exact DataW.trod_lt m _ _ _ hm
  obtain ⟨cs0, rfl, _⟩ := okWide_struct Tryd.underlying26 (hval 0 26 v0 rfl rfl)
  obtain ⟨fuel0, hf0⟩ := h0
  obtain ⟨x0, hK0, hm0, hI0⟩ := oa26.opn enc W 0 fuel0 _ _ _ hf0
  obtain ⟨a1, rfl, rfl, rfl, w1⟩ := open_int Tryd.underlying3 (hval 1 3 v1 rfl rfl) h1
  obtain ⟨a2, rfl, rfl, rfl, w2⟩ := open_int Tryd.underlying3 (hval 2 3 v2 rfl rfl) h2
  clear hA0 hval0
  have q0 : ∀ {α : Type} (g : α → Nat) (l : List α), (∀ a, 1 ≤ g a) → l.length ≤ sumA g l := fun g l h => by
    induction l with
    | nil => simp
    | cons a l ih =>
      have := h a
      simp only [List.length_cons, sumA]
      omega
  have q1 : ∀ {α : Type} (g g' : α → Nat) (l : List α), (∀ a, g a ≤ g' a) → X.sm g l l.length ≤ sumA g' l := fun g g' l h => by
    unfold X.sm
    rw [List.take_length]
    induction l with
    | nil => simp
    | cons a l ih =>
      have := h a
      simp only [List.map_cons, List.sum_cons, sumA]
      omega
  have eI : ∀ a, ma46 a = (1 + (ma43 a.dst + ((sumA ma43 a.args + 1) + ((a.name.size + 1) + (1 + ((sumA (fun s : ByteArray => s.size + 1) a.labels + 1) + (sumA (fun _ : Int => 1) a.cases + 1))))))) + 1 := fun a => rfl
  have eB : ∀ a, ma41 a = ((a.label.size + 1) + (1 + ((sumA ma43 a.ins + 1) + (sumA ma46 a.code + 1)))) + 1 := fun a => rfl
  have eF : ma26 x0 = (1 + ((x0.name.size + 1) + ((sumA ma36 x0.regs + 1) + ((sumA ma43 x0.params + 1) + (sumA ma41 x0.blocks + 1))))) + 1 := rfl
  have zI : ∀ a, X.szI a ≤ ma46 a := fun a => by
    have h1 := q0 ma43 a.args (fun a => by unfold ma43; omega)
    have h2 := q0 (fun _ : Int => 1) a.cases (fun _ => Nat.le_refl _)
    have h3 := q1 X.szL (fun s : ByteArray => s.size + 1) a.labels (fun s => by unfold X.szL; omega)
    have e : X.szI a = 1 + a.args.length + a.name.size + a.cases.length + X.sm X.szL a.labels a.labels.length := rfl
    have := eI a
    omega
  have zB : ∀ a, X.szB a ≤ ma41 a := fun a => by
    have h1 := q0 ma43 a.ins (fun a => by unfold ma43; omega)
    have h2 := q1 X.szI ma46 a.code zI
    have e : X.szB a = a.label.size + a.ins.length + X.sm X.szI a.code a.code.length := rfl
    have := eB a
    omega
  have zF : X.szF x0 ≤ ma26 x0 := by
    have h1 := q0 ma36 x0.regs (fun a => by unfold ma36; omega)
    have h2 := q0 ma43 x0.params (fun a => by unfold ma43; omega)
    have h3 := q1 X.szB ma41 x0.blocks zB
    have e : X.szF x0 = (x0.name.size + x0.regs.length + x0.params.length) + X.sm X.szB x0.blocks x0.blocks.length := rfl
    omega
  have zb : x0.blocks.length ≤ ma26 x0 := by
    have h3 := q0 ma41 x0.blocks (fun a => by have := eB a; omega)
    omega
  have hp : a1 < 9223372036854775808 := by
    have h1 := w1
    simp [Lit.wf, IntKind.min, IntKind.max, IntKind.bits, IntKind.signed] at h1
    omega
  have walk := ctr_law (C3 x0 a1 a2 hp (by omega) (by omega)) ⟨Value.agg cs0, _, rfl, ⟨cs0.toList, rfl, hK0⟩, _, _, rfl, rfl, _, _, rfl, rfl, rfl⟩ (X.tab_glob hL)
  refine (walk).mono fun e W' ⟨he, bel⟩ => ?_
  subst he
  exact ⟨_, rfl, _, _, _, [], _, [], hW', trodAll_mk1 (shut_bool Tryd.underlying4 _), (trodAll_cons_mk (Below.trod laidOut (by kernel_rfl) (of_decide_eq_true (by kernel_rfl)) k0 bel lt0) (trodAll_cons_mk (shut_int Tryd.underlying3 w1) (trodAll_cons_mk (shut_int Tryd.underlying3 w2) trodAll_mk0))), rfl, bel.frame _, fun h => by cases h⟩
theorem reads (os : Os) {H : Type} (enc : TypeId × Value → H) : ∃ places, DataW.whole enc Tryd.prog ((World.laidAll Tryd.prog os X.tabLaid).forCall (fun _ _ => 0) ⟨#[], #[.agg #[.bool false, .string ByteArray.empty, .slice none 0 0, .slice none 0 0, .slice none 0 0], .int .i64 0, .int .i64 0], []⟩).memory Tryd.f3.params.toList Rows.liveTellsSpec.vars false #[.agg #[.bool false, .string ByteArray.empty, .slice none 0 0, .slice none 0 0, .slice none 0 0], .int .i64 0, .int .i64 0].toList 8 = some ([.agg [.lit (.bool false), .lit (.string []), .nil, .nil, .nil], .lit (.int .i64 0), .lit (.int .i64 0)], [], places) :=
  ⟨[], by kernel_rfl⟩
set_option maxRecDepth 100000 in
theorem lifted (os : Os) (started : os.Started) (H : Type) (enc : TypeId × Value → H) (F : Stop.Interp) :
    ReturnsInHanded {} Tryd.checked os 3 .any ((Rows.OpenSpec.upto Rows.liveTellsSpec).preRow enc Tryd.prog Tryd.f3 Rows.liveTellsUptoRow.domain false Rows.liveTellsUptoRow.laid) (((Rows.OpenSpec.upto Rows.liveTellsSpec).at F).post enc Tryd.prog Tryd.f3 false true false false) := by
  obtain ⟨places, hx⟩ := reads os enc
  refine returnsInHanded_of_row (C := Tryd.checked) (s := Rows.OpenSpec.upto Rows.liveTellsSpec) own started (by kernel_rfl) Tryd.func3
    (witness_row_at (enc := enc) (C := Tryd.checked) false (World.laidAll Tryd.prog os X.tabLaid) #[.agg #[.bool false, .string ByteArray.empty, .slice none 0 0, .slice none 0 0, .slice none 0 0], .int .i64 0, .int .i64 0] (World.laidAll_os _ _ _) (by kernel_rfl) (by kernel_rfl) (by kernel_rfl)
      (OpenSpec.preRow_of_cond 8 hx (by kernel_rfl) (fun k hk => by cases hk; kernel_rfl) (by kernel_rfl)
        (by rw [MakeChecks.laidMetH_plain _ _ _ (by kernel_rfl)]; exact laidMet_laidAll _ (by kernel_rfl) (by kernel_rfl)))) ?_
  intro W base args ds gs before hval hW _ hcond _ hL _ _
  exact contract H enc W base args ds gs before (hcond _ rfl) hL hval hW
theorem over : Rows.liveTellsUptoRow.holds Tryd.pinned (Rows.OpenSpec.upto Rows.liveTellsSpec) :=
  OpenClaim.holds_of_cond 3 Tryd.f3 rfl rfl rfl rfl rfl rfl rfl ⟨rfl, rfl, rfl, rfl, rfl⟩ rfl rfl rfl rfl rfl (by kernel_rfl) Tryd.func3 (by kernel_rfl)
    (of_decide_eq_true (by kernel_rfl)) (by unfold Func.isWrapper; first | (rw [if_pos (by decide +kernel)]; kernel_rfl) | (rw [if_neg (by decide +kernel)]; exact ⟨rfl, rfl⟩))
    (fun os started H enc _ F => by rw [OpenClaim.pre_eq_preRow]; exact lifted os started H enc F)
theorem proved : Rows.LiveTellsUptoCardSaid :=
  Claim7.holds_tied_plain_at .later [] [.data] true (true, "641aa07553a0f869dce9209aa3cd4e55142776d12cf201fddcaa83b5a35b3d57") false
    over (fun _ h => by cases h) (by kernel_rfl) (fun _ h => by cases h) liveTellsUpto_row_tie rfl ⟨rfl, rfl⟩ (by kernel_rfl) rfl
    (fun f fn hf hfn => by
      obtain rfl : f = 3 := Option.some.inj ((show Tryd.prog.funcNamed "dyehouse/dyehouselaw25.LiveTells" = some 3 by kernel_rfl).symm.trans hf) |>.symm
      obtain rfl : fn = Tryd.f3 := (Option.some.inj (Tryd.func3.symm.trans hfn)).symm
      exact ⟨by kernel_rfl, fun j t ht => by
        rw [Tryd.params3] at ht
        have hm : t ∈ [26, 3, 3] := by simpa using Array.mem_of_getElem? ht
        have hall : ([26, 3, 3].all fun u => !Tryd.prog.wantsStandIn u) = true := by kernel_rfl
        exact (show Tryd.prog.wantsStandIn t = false by simpa using List.all_eq_true.1 hall t hm)⟩)
    (by kernel_rfl)
#print axioms proved
end Go.Proofs.YtgbmneoeggdaoaaDoor.liveTells
namespace Go.Proofs.YtgbmneoeggdaoaaDoor
/-- The row, under a short name, for the claim. -/
theorem liveTellsUptoCard_holds : Rows.LiveTellsUptoCardSaid := liveTells.proved
end Go.Proofs.YtgbmneoeggdaoaaDoor
