/- What the listed package-level variable holds, as the abstract machine takes it. -/
import Derived.Test.YtgbmneoeggdaoaaGreatDoorRows
import Derived.Test.YtgbmneoeggdaoaaGreatDoorXam1
import Derived.ProofKit
import Derived.OpenShut
import Derived.LaidMore
import Derived.Lay
import Derived.Stop.Joined
namespace Go.Proofs.YtgbmneoeggdaoaaGreatDoor.X
open Go Go.AM Go.RowKit
open Go.ChangeShapes Go.WideShapes Go.ChangeAt
set_option linter.unusedVariables false
def tabLaid : List (String × DataW Unit) := [("math/bits.deBruijn64tab", Rows.laid_math_bits_deBruijn64tab)]
def tabInts : List Int := dbNums.map fun (n : Nat) => (n : Int)
theorem tab_cell {W : World} (h : laidMetH Tryz.prog tabLaid W) (r : Nat) (hr : r < 64) : W.cell? ⟨0, r, none⟩ = some (.int .u8 (tabInts.getD r 0)) := by
  rw [MakeChecks.laidMetH_plain _ _ _ (by kernel_rfl)] at h
  obtain ⟨ps, ⟨g, t, cs, fuel, p, q, hg, ht, hv, hd, _, _⟩, _, _⟩ := h
  obtain rfl := Option.some.inj ((show Tryz.prog.globalNamed "math/bits.deBruijn64tab" = some 0 by kernel_rfl).symm.trans hg)
  obtain rfl := Option.some.inj ((show (Tryz.prog.globals[0]?).map (·.type) = some 150 by kernel_rfl).symm.trans ht)
  obtain ⟨xs, m, _, ex, _, hl, hel⟩ := DataW.trod_array Tryz.underlying150 hd
  have c5 : Tryz.prog.cellsOf 5 = 1 := by kernel_rfl
  have hE := hel r hr
  rw [c5, Nat.mul_one, List.getElem?_eq_getElem (by omega)] at hE
  obtain ⟨z, e1, e2, _⟩ := DataW.trod_int Tryz.underlying5 hE
  have hlen : tabInts.length = 64 := by decide
  have e3 : (xs.map (·.1)) = tabInts.map fun n => .lit (.int .u8 n) := (DataW.agg.inj (Prod.mk.inj ex).1).symm
  have e4 : (xs.map (·.1))[r]? = (tabInts.map fun n => (DataW.lit (.int .u8 n) : DataW Unit))[r]? := by rw [e3]
  rw [List.getElem?_map, List.getElem?_map, List.getElem?_eq_getElem (by omega : r < xs.length), List.getElem?_eq_getElem (by omega : r < tabInts.length), e2] at e4
  have hz : z = tabInts.getD r 0 := by
    simp only [Option.map_some, Option.some.injEq, DataW.lit.injEq, Lit.int.injEq, true_and] at e4
    rw [e4, List.getD, List.getElem?_eq_getElem (by omega : r < tabInts.length)]; rfl
  rw [World.var?_cell hg hv r, ← hz]
  have : cs.toList[r]? = some (.int .u8 z) := by
    have h0 : ((cs.toList.drop r).take 1)[0]? = some (.int .u8 z) := by rw [e1]; rfl
    simpa using h0
  simpa using this
theorem tabC_of {V : View} {L : Nat → Option Value} : ∀ (l : List Nat) (o : Nat), (∀ i x, l[i]? = some x → L (o + i) = some (.int .u8 (x : Nat))) → RepC V L o (l.map fun (n : Nat) => AV.int .u8 (n : Nat))
  | [], o, h => by simp only [List.map_nil, RepC]
  | x :: l, o, h => by
    simp only [List.map_cons, RepC]
    refine ⟨⟨_, h 0 x rfl, rfl, rfl⟩, tabC_of l (o + 1) fun i y hy => ?_⟩
    have := h (i + 1) y (by simpa using hy)
    rwa [show o + (i + 1) = o + 1 + i by omega] at this
theorem tab_glob {W : World} (h : laidMetH Tryz.prog tabLaid W) : Glob (fun b o => W.cell? ⟨b, o, none⟩) := by
  intro p hp
  obtain rfl := List.mem_singleton.1 hp
  refine tabC_of dbNums 0 fun i x hx => ?_
  have hi : i < 64 := (List.getElem?_eq_some_iff.1 hx).1
  have := tab_cell h i hi
  rw [Nat.zero_add]
  refine this.trans ?_
  congr 2
  unfold tabInts
  rw [List.getD_eq_getElem?_getD, List.getElem?_map, hx]
  rfl
end Go.Proofs.YtgbmneoeggdaoaaGreatDoor.X
