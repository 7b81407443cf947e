/- The statement LivePresent, where what it reads is not too much: for every such input it returns true, and leaves its arguments as they were. -/
import Derived.Test.YtgbmneoeggdaoaaGreatDoorRows
import Derived.Test.YtgbmneoeggdaoaaGreatDoorCards
import Derived.Test.YtgbmneoeggdaoaaGreatDoorTie
import Derived.Test.YtgbmneoeggdaoaaGreatDoorXglob
import Derived.Test.YtgbmneoeggdaoaaGreatDoorXoa
import Derived.Test.YtgbmneoeggdaoaaGreatDoorXp
import Derived.SevenTiedAt
import Derived.LaidMore
import Derived.Lay
import Derived.Stop.Joined
import Derived.Deep.DeepHandedRow
import Derived.WalkKit
import Derived.ProofKit
import Derived.OpenShut
import Derived.ShutString
import Derived.ChangeOld
import Derived.Below
import Derived.JoinedCond
namespace Go.Proofs.YtgbmneoeggdaoaaGreatDoor.livePresent
open Go.ChangeShapes Go.WideShapes Go.ChangeAt Go.RowKit Go.AM Go.Proofs.YtgbmneoeggdaoaaGreatDoor.X
open Go.ChangeMaps (open_string shut_string)
set_option linter.unusedVariables false
theorem own : ownKnob Tryz.prog.godebug = none := by kernel_rfl
theorem laidOut : laidOutB Tryz.prog = true := by kernel_rfl
set_option maxRecDepth 100000 in
theorem contract (H : Type) (enc : TypeId × Value → H) (W : World) (base : Nat) (args : Array Value) (ds gs : List (DataW H)) (before : List MemPlace) (hL : laidMetH Tryz.prog X.tabLaid W) (hz : (DataW.weightsEach Tryz.prog (Tryz.f3.params.toList ++ (OpenSpec.ofChange Rows.livePresentSpec).bare.plain.varTypes Tryz.prog) (ds ++ gs)).all (· ≤ reachBytes) = true)
    (hval0 : ∀ (j : Nat) t v, Tryz.f3.params[j]? = some t → args[j]? = some v → Value.okWide Tryz.prog W .any base t v)
    (hW : DataW.Whole enc Tryz.prog Tryz.f3.params.toList Rows.livePresentSpec.vars false W args.toList ds gs before) :
    Calls Tryz.prog 3 args W fun e W' => ∃ v, e = .returned v ∧ Rows.livePresentSpec.post enc Tryz.prog Tryz.f3 false true false false W args v W' := by
  have hW' := hW
  have hval := hval0
  obtain ⟨p, q, hA0, hV, rfl, hfz, hnd⟩ := hW
  have hA : DataW.TrodAll enc Tryz.prog W 0 (fun _ => true) true Tryz.f3.params.toList args.toList ds p := hA0
  rw [Tryz.params3] at hA hval
  obtain ⟨v0, vs0, d0, ds0, p0, q0, hargs, rfl, rfl, h0, r0⟩ := trodAll_cons hA
  obtain ⟨rfl, rfl, rfl⟩ := trodAll_nil r0
  obtain rfl : args = #[v0] := by cases args; simp_all
  obtain ⟨rfl, rfl⟩ := trodVars_none hV
  have hz0 := hz
  rw [Tryz.params3] at hz0
  obtain ⟨hw0, hz1⟩ := weights_cons (t := 24) (d := d0) hz0
  have k0 := h0
  have lt0 : ∀ x ∈ p0, x.block < W.heap.size := by obtain ⟨m, hm⟩ := k0; exact DataW.trod_lt m _ _ _ hm
  obtain ⟨cs0, rfl, _⟩ := okWide_struct Tryz.underlying24 (hval 0 24 v0 rfl rfl)
  obtain ⟨fuel0, hf0⟩ := h0
  obtain ⟨x0, hK0, hm0, hI0⟩ := oa24.opn enc W 0 fuel0 _ _ _ hf0 hw0
  clear hA0 hval0
  have hd : x0.Ok := ⟨u8wf hI0.1, u8wf hI0.2.1, u8wf hI0.2.2.1, fun b hb => ⟨fun i hi => ⟨u8wf ((hI0.2.2.2.1 b hb).1.1 i hi).1, u8wf ((hI0.2.2.2.1 b hb).1.1 i hi).2.1, u8wf ((hI0.2.2.2.1 b hb).1.1 i hi).2.2.1, u8wf ((hI0.2.2.2.1 b hb).1.1 i hi).2.2.2.1, i16wf ((hI0.2.2.2.1 b hb).1.1 i hi).2.2.2.2⟩, u8wf (hI0.2.2.2.1 b hb).2.1, u8wf (hI0.2.2.2.1 b hb).2.2.1, u8wf (hI0.2.2.2.1 b hb).2.2.2.1, u8wf (hI0.2.2.2.1 b hb).2.2.2.2⟩⟩
  have hB : x0.blocks.length ≤ 140737488355328 := by have h := hI0.2.2.2.2; simp only [reachBytes] at h; omega
  have hC : ∀ b ∈ x0.blocks, b.code.length ≤ 140737488355328 := fun b hb => by have h := (hI0.2.2.2.1 b hb).1.2; simp only [reachBytes] at h; omega
  have walk := ctr_law (C3 x0 hd hB hC) ⟨Value.agg cs0, _, rfl, ⟨cs0.toList, rfl, hK0⟩, rfl⟩ (X.tab_glob hL)
  refine (walk).mono fun e W' ⟨he, bel⟩ => ?_
  subst he
  exact ⟨_, rfl, _, _, _, [], _, [], hW', trodAll_mk1 (shut_bool Tryz.underlying4 _), (trodAll_cons_mk (Below.trod laidOut (by kernel_rfl) (of_decide_eq_true (by kernel_rfl)) k0 bel lt0) trodAll_mk0), rfl, bel.frame _, fun h => by cases h⟩
theorem reads (os : Os) {H : Type} (enc : TypeId × Value → H) : ∃ places, DataW.whole enc Tryz.prog ((World.laidAll Tryz.prog os X.tabLaid).forCall (fun _ _ => 0) ⟨#[], #[.agg #[.int .u8 0, .int .u8 0, .int .u8 0, .slice none 0 0]], []⟩).memory Tryz.f3.params.toList Rows.livePresentSpec.vars false #[.agg #[.int .u8 0, .int .u8 0, .int .u8 0, .slice none 0 0]].toList 8 = some ([.agg [.lit (.int .u8 0), .lit (.int .u8 0), .lit (.int .u8 0), .nil]], [], places) :=
  ⟨[], by kernel_rfl⟩
set_option maxRecDepth 100000 in
theorem lifted (os : Os) (started : os.Started) (H : Type) (enc : TypeId × Value → H) (F : Stop.Interp) :
    ReturnsInHanded {} Tryz.checked os 3 .any ((OpenSpec.ofChange Rows.livePresentSpec).preRow enc Tryz.prog Tryz.f3 Rows.livePresentRow.domain false Rows.livePresentRow.laid) (((OpenSpec.ofChange Rows.livePresentSpec).at F).post enc Tryz.prog Tryz.f3 false true false false) := by
  obtain ⟨places, hx⟩ := reads os enc
  refine returnsInHanded_of_row (C := Tryz.checked) (s := OpenSpec.ofChange Rows.livePresentSpec) own started (by kernel_rfl) Tryz.func3
    (witness_row_at (enc := enc) (C := Tryz.checked) false (World.laidAll Tryz.prog os X.tabLaid) #[.agg #[.int .u8 0, .int .u8 0, .int .u8 0, .slice none 0 0]] (World.laidAll_os _ _ _) (by kernel_rfl) (by kernel_rfl) (by kernel_rfl)
      (OpenSpec.preRow_of_cond 8 hx (by kernel_rfl) (fun k hk => by cases hk) (by kernel_rfl)
        (by rw [MakeChecks.laidMetH_plain _ _ _ (by kernel_rfl)]; exact laidMet_laidAll _ (by kernel_rfl) (by kernel_rfl)))) ?_
  intro W base args ds gs before hval hW _ hcond hz hL _ _
  exact contract H enc W base args ds gs before hL hz hval hW
theorem over : Rows.livePresentRow.holds Tryz.pinned (OpenSpec.ofChange Rows.livePresentSpec) :=
  OpenClaim.holds_of_cond 3 Tryz.f3 rfl rfl rfl rfl rfl rfl rfl ⟨rfl, rfl, rfl, rfl, rfl⟩ rfl rfl rfl rfl rfl (by kernel_rfl) Tryz.func3 (by kernel_rfl)
    (of_decide_eq_true (by kernel_rfl)) (by unfold Func.isWrapper; first | (rw [if_pos (by decide +kernel)]; kernel_rfl) | (rw [if_neg (by decide +kernel)]; exact ⟨rfl, rfl⟩))
    (fun os started H enc _ F => by rw [OpenClaim.pre_eq_preRow]; exact lifted os started H enc F)
theorem proved : Rows.LivePresentCardSaid :=
  Claim7.holds_tied_plain_at .later [] [.data] true (true, "b53c3c19084f6bab84ea5ca5dc21483a56051750a92ec556581173ebf5bdf10c") false
    over (fun _ h => by cases h) (by kernel_rfl) (fun _ h => by cases h) livePresent_row_tie rfl ⟨rfl, rfl⟩ (by kernel_rfl) rfl
    (fun f fn hf hfn => by
      obtain rfl : f = 3 := Option.some.inj ((show Tryz.prog.funcNamed "dyehouse/dyehouselaw25.LivePresent" = some 3 by kernel_rfl).symm.trans hf) |>.symm
      obtain rfl : fn = Tryz.f3 := (Option.some.inj (Tryz.func3.symm.trans hfn)).symm
      exact ⟨by kernel_rfl, fun j t ht => by
        rw [Tryz.params3] at ht
        have hm : t ∈ [24] := by simpa using Array.mem_of_getElem? ht
        have hall : ([24].all fun u => !Tryz.prog.wantsStandIn u) = true := by kernel_rfl
        exact (show Tryz.prog.wantsStandIn t = false by simpa using List.all_eq_true.1 hall t hm)⟩)
    (by kernel_rfl)
#print axioms proved
end Go.Proofs.YtgbmneoeggdaoaaGreatDoor.livePresent
namespace Go.Proofs.YtgbmneoeggdaoaaGreatDoor
/-- The row, under a short name, for the claim. -/
theorem livePresentCard_holds : Rows.LivePresentCardSaid := livePresent.proved
end Go.Proofs.YtgbmneoeggdaoaaGreatDoor
