/- The statement LiveWays, where what it reads is not too much: for every such input it returns true, and leaves its arguments as they were. -/
import Derived.Test.YtgbmneoeggdaoaaGreatDoorRows
import Derived.Test.YtgbmneoeggdaoaaGreatDoorCards
import Derived.Test.YtgbmneoeggdaoaaGreatDoorTie
import Derived.Test.YtgbmneoeggdaoaaGreatDoorXglob
import Derived.Test.YtgbmneoeggdaoaaGreatDoorXoa
import Derived.Test.YtgbmneoeggdaoaaGreatDoorXq
import Derived.SevenTiedAt
import Derived.LaidMore
import Derived.Lay
import Derived.Stop.Joined
import Derived.Deep.DeepHandedRow
import Derived.WalkKit
import Derived.ProofKit
import Derived.OpenShut
import Derived.ShutString
import Derived.ChangeOld
import Derived.Below
import Derived.JoinedCond
namespace Go.Proofs.YtgbmneoeggdaoaaGreatDoor.liveWays
open Go.ChangeShapes Go.WideShapes Go.ChangeAt Go.RowKit Go.AM Go.Proofs.YtgbmneoeggdaoaaGreatDoor.X
open Go.ChangeMaps (open_string shut_string)
set_option linter.unusedVariables false
theorem own : ownKnob Tryz.prog.godebug = none := by kernel_rfl
theorem laidOut : laidOutB Tryz.prog = true := by kernel_rfl
set_option maxRecDepth 100000 in
theorem contract (H : Type) (enc : TypeId × Value → H) (W : World) (base : Nat) (args : Array Value) (ds gs : List (DataW H)) (before : List MemPlace) (hL : laidMetH Tryz.prog X.tabLaid W) (hz : (DataW.weightsEach Tryz.prog (Tryz.f4.params.toList ++ (OpenSpec.ofChange Rows.liveWaysSpec).bare.plain.varTypes Tryz.prog) (ds ++ gs)).all (· ≤ reachBytes) = true)
    (hval0 : ∀ (j : Nat) t v, Tryz.f4.params[j]? = some t → args[j]? = some v → Value.okWide Tryz.prog W .any base t v)
    (hW : DataW.Whole enc Tryz.prog Tryz.f4.params.toList Rows.liveWaysSpec.vars false W args.toList ds gs before) :
    Calls Tryz.prog 4 args W fun e W' => ∃ v, e = .returned v ∧ Rows.liveWaysSpec.post enc Tryz.prog Tryz.f4 false true false false W args v W' := by
  have hW' := hW
  have hval := hval0
  obtain ⟨p, q, hA0, hV, rfl, hfz, hnd⟩ := hW
  have hA : DataW.TrodAll enc Tryz.prog W 0 (fun _ => true) true Tryz.f4.params.toList args.toList ds p := hA0
  rw [Tryz.params4] at hA hval
  obtain ⟨v0, vs0, d0, ds0, p0, q0, hargs, rfl, rfl, h0, r0⟩ := trodAll_cons hA
  obtain ⟨v1, vs1, d1, ds1, p1, q1, rfl, rfl, rfl, h1, r1⟩ := trodAll_cons r0
  obtain ⟨rfl, rfl, rfl⟩ := trodAll_nil r1
  obtain rfl : args = #[v0, v1] := by cases args; simp_all
  obtain ⟨rfl, rfl⟩ := trodVars_none hV
  have hz0 := hz
  rw [Tryz.params4] at hz0
  obtain ⟨hw0, hz1⟩ := weights_cons (t := 24) (d := d0) hz0
  obtain ⟨hw1, hz2⟩ := weights_cons (t := 52) (d := d1) hz1
  have k0 := h0
  have lt0 : ∀ x ∈ p0, x.block < W.heap.size := by obtain ⟨m, hm⟩ := k0; exact DataW.trod_lt m _ _ _ hm
  obtain ⟨cs0, rfl, _⟩ := okWide_struct Tryz.underlying24 (hval 0 24 v0 rfl rfl)
  obtain ⟨fuel0, hf0⟩ := h0
  obtain ⟨x0, hK0, hm0, hI0⟩ := oa24.opn enc W 0 fuel0 _ _ _ hf0 hw0
  have k1 := h1
  have lt1 : ∀ x ∈ p1, x.block < W.heap.size := by obtain ⟨m, hm⟩ := k1; exact DataW.trod_lt m _ _ _ hm
  obtain ⟨aa1, len1, cap1, rfl⟩ := okWide_slice Tryz.underlying52 (hval 1 52 v1 rfl rfl)
  obtain ⟨fuel1, hf1⟩ := h1
  obtain ⟨x1, hK1, hm1, hI1⟩ := oa52.opn enc W 0 fuel1 _ _ _ hf1 hw1
  clear hA0 hval0
  obtain ⟨u1, r1, e0, z1, e1⟩ := hK1
  obtain rfl := (List.cons.inj e0).1
  have hd : x0.Ok := ⟨u8wf hI0.1, u8wf hI0.2.1, u8wf hI0.2.2.1, fun b hb => ⟨fun i hi => ⟨u8wf ((hI0.2.2.2.1 b hb).1.1 i hi).1, u8wf ((hI0.2.2.2.1 b hb).1.1 i hi).2.1, u8wf ((hI0.2.2.2.1 b hb).1.1 i hi).2.2.1, u8wf ((hI0.2.2.2.1 b hb).1.1 i hi).2.2.2.1, i16wf ((hI0.2.2.2.1 b hb).1.1 i hi).2.2.2.2⟩, u8wf (hI0.2.2.2.1 b hb).2.1, u8wf (hI0.2.2.2.1 b hb).2.2.1, u8wf (hI0.2.2.2.1 b hb).2.2.2.1, u8wf (hI0.2.2.2.1 b hb).2.2.2.2⟩⟩
  have hB : x0.blocks.length ≤ 140737488355328 := by have h := hI0.2.2.2.2; simp only [reachBytes] at h; omega
  have hC : ∀ b ∈ x0.blocks, b.code.length ≤ 140737488355328 := fun b hb => by have h := (hI0.2.2.2.1 b hb).1.2; simp only [reachBytes] at h; omega
  have htu : ∀ x ∈ x1, 0 ≤ x ∧ x < 256 := fun x hx => u8wf (hI1.1 x hx)
  have walk := ctr_law (C4 x0 hd hB hC x1 htu) ⟨Value.agg cs0, _, rfl, ⟨cs0.toList, rfl, hK0⟩, _, _, rfl, z1, rfl⟩ (X.tab_glob hL)
  refine (walk).mono fun e W' ⟨he, bel⟩ => ?_
  subst he
  exact ⟨_, rfl, _, _, _, [], _, [], hW', trodAll_mk1 (shut_bool Tryz.underlying4 _), (trodAll_cons_mk (Below.trod laidOut (by kernel_rfl) (of_decide_eq_true (by kernel_rfl)) k0 bel lt0) (trodAll_cons_mk (Below.trod laidOut (by kernel_rfl) (of_decide_eq_true (by kernel_rfl)) k1 bel lt1) trodAll_mk0)), rfl, bel.frame _, fun h => by cases h⟩
theorem reads (os : Os) {H : Type} (enc : TypeId × Value → H) : ∃ places, DataW.whole enc Tryz.prog ((World.laidAll Tryz.prog os X.tabLaid).forCall (fun _ _ => 0) ⟨#[], #[.agg #[.int .u8 0, .int .u8 0, .int .u8 0, .slice none 0 0], .slice none 0 0], []⟩).memory Tryz.f4.params.toList Rows.liveWaysSpec.vars false #[.agg #[.int .u8 0, .int .u8 0, .int .u8 0, .slice none 0 0], .slice none 0 0].toList 8 = some ([.agg [.lit (.int .u8 0), .lit (.int .u8 0), .lit (.int .u8 0), .nil], .nil], [], places) :=
  ⟨[], by kernel_rfl⟩
set_option maxRecDepth 100000 in
theorem lifted (os : Os) (started : os.Started) (H : Type) (enc : TypeId × Value → H) (F : Stop.Interp) :
    ReturnsInHanded {} Tryz.checked os 4 .any ((OpenSpec.ofChange Rows.liveWaysSpec).preRow enc Tryz.prog Tryz.f4 Rows.liveWaysRow.domain false Rows.liveWaysRow.laid) (((OpenSpec.ofChange Rows.liveWaysSpec).at F).post enc Tryz.prog Tryz.f4 false true false false) := by
  obtain ⟨places, hx⟩ := reads os enc
  refine returnsInHanded_of_row (C := Tryz.checked) (s := OpenSpec.ofChange Rows.liveWaysSpec) own started (by kernel_rfl) Tryz.func4
    (witness_row_at (enc := enc) (C := Tryz.checked) false (World.laidAll Tryz.prog os X.tabLaid) #[.agg #[.int .u8 0, .int .u8 0, .int .u8 0, .slice none 0 0], .slice none 0 0] (World.laidAll_os _ _ _) (by kernel_rfl) (by kernel_rfl) (by kernel_rfl)
      (OpenSpec.preRow_of_cond 8 hx (by kernel_rfl) (fun k hk => by cases hk) (by kernel_rfl)
        (by rw [MakeChecks.laidMetH_plain _ _ _ (by kernel_rfl)]; exact laidMet_laidAll _ (by kernel_rfl) (by kernel_rfl)))) ?_
  intro W base args ds gs before hval hW _ hcond hz hL _ _
  exact contract H enc W base args ds gs before hL hz hval hW
theorem over : Rows.liveWaysRow.holds Tryz.pinned (OpenSpec.ofChange Rows.liveWaysSpec) :=
  OpenClaim.holds_of_cond 4 Tryz.f4 rfl rfl rfl rfl rfl rfl rfl ⟨rfl, rfl, rfl, rfl, rfl⟩ rfl rfl rfl rfl rfl (by kernel_rfl) Tryz.func4 (by kernel_rfl)
    (of_decide_eq_true (by kernel_rfl)) (by unfold Func.isWrapper; first | (rw [if_pos (by decide +kernel)]; kernel_rfl) | (rw [if_neg (by decide +kernel)]; exact ⟨rfl, rfl⟩))
    (fun os started H enc _ F => by rw [OpenClaim.pre_eq_preRow]; exact lifted os started H enc F)
theorem proved : Rows.LiveWaysCardSaid :=
  Claim7.holds_tied_plain_at .later [] [.data] true (true, "b53c3c19084f6bab84ea5ca5dc21483a56051750a92ec556581173ebf5bdf10c") false
    over (fun _ h => by cases h) (by kernel_rfl) (fun _ h => by cases h) liveWays_row_tie rfl ⟨rfl, rfl⟩ (by kernel_rfl) rfl
    (fun f fn hf hfn => by
      obtain rfl : f = 4 := Option.some.inj ((show Tryz.prog.funcNamed "dyehouse/dyehouselaw25.LiveWays" = some 4 by kernel_rfl).symm.trans hf) |>.symm
      obtain rfl : fn = Tryz.f4 := (Option.some.inj (Tryz.func4.symm.trans hfn)).symm
      exact ⟨by kernel_rfl, fun j t ht => by
        rw [Tryz.params4] at ht
        have hm : t ∈ [24, 52] := by simpa using Array.mem_of_getElem? ht
        have hall : ([24, 52].all fun u => !Tryz.prog.wantsStandIn u) = true := by kernel_rfl
        exact (show Tryz.prog.wantsStandIn t = false by simpa using List.all_eq_true.1 hall t hm)⟩)
    (by kernel_rfl)
#print axioms proved
end Go.Proofs.YtgbmneoeggdaoaaGreatDoor.liveWays
namespace Go.Proofs.YtgbmneoeggdaoaaGreatDoor
/-- The row, under a short name, for the claim. -/
theorem liveWaysCard_holds : Rows.LiveWaysCardSaid := liveWays.proved
end Go.Proofs.YtgbmneoeggdaoaaGreatDoor
