/-
  No cell of these rows narrows 'for every input' (looked for: loops, veiled, ifaces, maps, wideKeys, modest, calm, conditions, laid).
  DERIVED. THE GIVEN ROWS OF THIS SEAT. 3 by the template 'for every input the law returns true; each argument reads behind the call as it read before'; 0 by the template 'total and deterministic' (their statements: YtapfnhhedieebaaTotals.lean).
  GIVEN WITH THE SEED: the statements are not yours to turn. If you find one false, say at which input.
  Laid BY PROGRAM, IN A SANDBOX (cutbox-rows.mjs): the forced cells as the released guide's own fill.sh prints them over the translation 53fd928dc494201e… (all of the seat's roots in one cut). By AI agents, Wed Nov 11 2026. No macro, syntax, notation, axiom, sorry.
-/
import Derived.Test.YtapfnhhedieebaaChecked
import GoSem.Claim
import GoSem.ClaimJoined
import GoSem.ClaimMapViews
import Derived.JoinedTies
import Derived.KernelRfl
namespace Go.Proofs.Ytapfnhhedieebaa
/- THE CELL 'sum', in the pinned program and in every row, IS THE sha256 OF THE DUMP (.gsa) THAT YtapfnhhedieebaaProg.lean LOADS. Nothing in Lean hashes anything: it is a label: what it is worth is what the hold of that sum in a sandbox is worth. -/
noncomputable def Try.pinned : Pinned := { name := "ytapfnhhedieebaa", sum := "53fd928dc494201e11822e17104876207daea4414488a08248a5dd23a8b7d769", checked := Try.checked }
namespace Rows
def none {H : Type} : Left H := { results := [], args := [] }

/-- 'dyehouselaw29.MovesOrder': WHATEVER THE INPUT: true; the input reads as it did. -/
def movesOrderSpec : ChangeSpec := { name := "movesOrder", fn := fun _ => fun
  | [d] => { results := [.lit (.bool true)], args := [d] }
  | _ => none }
def movesOrderRow : OpenClaim := { program := "ytapfnhhedieebaa", sum := "53fd928dc494201e11822e17104876207daea4414488a08248a5dd23a8b7d769", func := "dyehouse/dyehouselaw29.MovesOrder", spec := "movesOrder", unfollowed := true, recurses := true, apart := false }
def MovesOrderSaid : Prop := movesOrderRow.holds Try.pinned (OpenSpec.ofChange movesOrderSpec)

/-- ITS FALSE NEIGHBOUR: 'it returns false'. Refute it at one input. -/
def movesOrderWrong : ChangeSpec := { name := "movesOrder", fn := fun _ => fun
  | [d] => { results := [.lit (.bool false)], args := [d] }
  | _ => none }
def MovesOrderWrongFalsely : Prop := movesOrderRow.holds Try.pinned (OpenSpec.ofChange movesOrderWrong)

/-- 'dyehouselaw29.MovesMake': WHATEVER THE INPUT: true; the input reads as it did. -/
def movesMakeSpec : ChangeSpec := { name := "movesMake", fn := fun _ => fun
  | [d] => { results := [.lit (.bool true)], args := [d] }
  | _ => none }
def movesMakeRow : OpenClaim := { program := "ytapfnhhedieebaa", sum := "53fd928dc494201e11822e17104876207daea4414488a08248a5dd23a8b7d769", func := "dyehouse/dyehouselaw29.MovesMake", spec := "movesMake", unfollowed := true, recurses := true, apart := false }
def MovesMakeSaid : Prop := movesMakeRow.holds Try.pinned (OpenSpec.ofChange movesMakeSpec)

/-- ITS FALSE NEIGHBOUR: 'it returns false'. Refute it at one input. -/
def movesMakeWrong : ChangeSpec := { name := "movesMake", fn := fun _ => fun
  | [d] => { results := [.lit (.bool false)], args := [d] }
  | _ => none }
def MovesMakeWrongFalsely : Prop := movesMakeRow.holds Try.pinned (OpenSpec.ofChange movesMakeWrong)

/-- 'dyehouselaw29.MovesTags': WHATEVER THE INPUT: true; the input reads as it did. -/
def movesTagsSpec : ChangeSpec := { name := "movesTags", fn := fun _ => fun
  | [d] => { results := [.lit (.bool true)], args := [d] }
  | _ => none }
def movesTagsRow : OpenClaim := { program := "ytapfnhhedieebaa", sum := "53fd928dc494201e11822e17104876207daea4414488a08248a5dd23a8b7d769", func := "dyehouse/dyehouselaw29.MovesTags", spec := "movesTags", unfollowed := true, recurses := true, apart := false }
def MovesTagsSaid : Prop := movesTagsRow.holds Try.pinned (OpenSpec.ofChange movesTagsSpec)

/-- ITS FALSE NEIGHBOUR: 'it returns false'. Refute it at one input. -/
def movesTagsWrong : ChangeSpec := { name := "movesTags", fn := fun _ => fun
  | [d] => { results := [.lit (.bool false)], args := [d] }
  | _ => none }
def MovesTagsWrongFalsely : Prop := movesTagsRow.holds Try.pinned (OpenSpec.ofChange movesTagsWrong)

/- THE SECOND FORM. 'bulk': how many values and letters a reading holds, each counted each time it is reached (what is shared counts as often as it is met; a slice's spare places count too). A statement '..UptoSaid' is the law's where the arguments, and the package variables that the reading takes, are together of bulk at most 1048576: NARROWER than '..Said'. Prove '..Said' where nothing that the law and all that it calls make is longer than what came in: it says more and counts as full. Else prove '..UptoSaid'. A law counts once. -/
mutual
def uptoBulk {H : Type} : DataW H → Nat
  | .lit (.string bytes) => bytes.length + 1
  | .lit _ => 1
  | .nil => 1
  | .ptr d => uptoBulk d + 1
  | .slice elems spare => uptoBulkAll elems + uptoBulkAll spare + 1
  | .agg parts => uptoBulkAll parts + 1
  | .iface _ d => uptoBulk d + 1
  | .map entries => uptoBulkEntries entries + 1
  | .held _ => 1
def uptoBulkAll {H : Type} : List (DataW H) → Nat
  | [] => 0
  | d :: r => uptoBulk d + uptoBulkAll r
def uptoBulkEntries {H : Type} : List (Lit × DataW H) → Nat
  | [] => 0
  | x :: r => uptoBulkEntry x + uptoBulkEntries r
def uptoBulkEntry {H : Type} : Lit × DataW H → Nat
  | (.string bytes, d) => bytes.length + uptoBulk d + 1
  | (_, d) => uptoBulk d + 1
 end
def uptoSmall : (H : Type) → List (DataW H) → Bool := fun _ ds => decide (uptoBulkAll ds ≤ 1048576)
def OpenSpec.upto (s : _root_.Go.ChangeSpec) : _root_.Go.OpenSpec := { _root_.Go.OpenSpec.ofChange s with cond := some uptoSmall }

/-- 'dyehouselaw29.MovesOrder', WHERE WHAT IT READS IS OF BULK AT MOST 1048576: true; the input reads as it did. -/
def movesOrderUptoRow : OpenClaim := { program := "ytapfnhhedieebaa", sum := "53fd928dc494201e11822e17104876207daea4414488a08248a5dd23a8b7d769", func := "dyehouse/dyehouselaw29.MovesOrder", spec := "movesOrder", unfollowed := true, recurses := true, apart := false, narrowed := true }
def MovesOrderUptoSaid : Prop := movesOrderUptoRow.holds Try.pinned (OpenSpec.upto movesOrderSpec)

/-- 'dyehouselaw29.MovesMake', WHERE WHAT IT READS IS OF BULK AT MOST 1048576: true; the input reads as it did. -/
def movesMakeUptoRow : OpenClaim := { program := "ytapfnhhedieebaa", sum := "53fd928dc494201e11822e17104876207daea4414488a08248a5dd23a8b7d769", func := "dyehouse/dyehouselaw29.MovesMake", spec := "movesMake", unfollowed := true, recurses := true, apart := false, narrowed := true }
def MovesMakeUptoSaid : Prop := movesMakeUptoRow.holds Try.pinned (OpenSpec.upto movesMakeSpec)

/-- 'dyehouselaw29.MovesTags', WHERE WHAT IT READS IS OF BULK AT MOST 1048576: true; the input reads as it did. -/
def movesTagsUptoRow : OpenClaim := { program := "ytapfnhhedieebaa", sum := "53fd928dc494201e11822e17104876207daea4414488a08248a5dd23a8b7d769", func := "dyehouse/dyehouselaw29.MovesTags", spec := "movesTags", unfollowed := true, recurses := true, apart := false, narrowed := true }
def MovesTagsUptoSaid : Prop := movesTagsUptoRow.holds Try.pinned (OpenSpec.upto movesTagsSpec)

end Rows
end Go.Proofs.Ytapfnhhedieebaa
