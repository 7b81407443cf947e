/- A statement's contract, as a run. -/
import Derived.Test.YtmmgdilhbkklpaaANC
import Derived.Below
namespace Go.AM
open Go Go.RowKit
set_option linter.unusedVariables false
theorem ctr_law {P : Program} {f : Nat} {args : List AV} {vs : List Value} {W : World} (h : Ctr P f args [] (ret [.bool true])) (hr : RepPL (fun b o => W.cell? ⟨b, o, none⟩) args vs) :
    Calls P f vs.toArray W fun e W' => e = .returned (.bool true) ∧ Below W.heap.size W W' := by
  obtain ⟨_, h⟩ := h
  let V : View := fun b o => W.cell? ⟨b, o, none⟩
  let G : Ctx := fun _ => none
  have hs : Sat W V G.owns V G W (fun k => ([] : List Ob)[k]?) := {
    keep := ⟨rfl, rfl, rfl, Nat.le_refl _, fun _ _ _ => rfl⟩
    view := fun b o v h => h
    vle := V.le_refl
    vnew := fun _ _ _ => rfl
    obs := fun k ob e => by simp at e
    dom := fun k s e => by cases e
    priv := fun k s b e => by cases e
    inj := fun k k' s s' b e => by cases e
    loc := fun k s b e => by cases e }
  refine (h V G W vs hs (RepPL.rep G hr)).mono fun e w' hh => ?_
  obtain ⟨V', G', v, res, obs', ⟨rfl, rfl⟩, rfl, hv, _, hs'⟩ := hh
  refine ⟨?_, ?_⟩
  · have : v = .bool true := by simpa only [RepRes, Rep, RepP] using hv
    rw [this]
  · obtain ⟨k1, k2, k3, k4, k5⟩ := hs'.keep
    exact ⟨k1, k2, k3, k4, fun b hb => k5 b hb (by rintro ⟨k, s, e, _⟩; cases e)⟩
end Go.AM
