/-
  No cell of these rows narrows 'for every input' (looked for: loops, veiled, ifaces, maps, wideKeys, modest, calm, conditions, laid).
  DERIVED. THE GIVEN ROWS OF THIS SEAT. 3 by the template 'for every input the law returns true; each argument reads behind the call as it read before'; 0 by the template 'total and deterministic' (their statements: YtnlemjfkgbgogaaTotals.lean).
  GIVEN WITH THE SEED: the statements are not yours to turn. If you find one false, say at which input.
  Laid BY PROGRAM, IN A SANDBOX (cutbox-rows.mjs): the forced cells as the released guide's own fill.sh prints them over the translation d0fc69f59cbc7662… (all of the seat's roots in one cut). By AI agents, Wed Nov 11 2026. No macro, syntax, notation, axiom, sorry.
-/
import Derived.Test.YtnlemjfkgbgogaaChecked
import GoSem.Claim
import GoSem.ClaimJoined
import GoSem.ClaimMapViews
import Derived.JoinedTies
import Derived.KernelRfl
namespace Go.Proofs.Ytnlemjfkgbgogaa
/- THE CELL 'sum', in the pinned program and in every row, IS THE sha256 OF THE DUMP (.gsa) THAT YtnlemjfkgbgogaaProg.lean LOADS. Nothing in Lean hashes anything: it is a label: what it is worth is what the hold of that sum in a sandbox is worth. -/
noncomputable def Try.pinned : Pinned := { name := "ytnlemjfkgbgogaa", sum := "d0fc69f59cbc766237f309f2269ac00e8f8a407e333caa01e7df44c07e4482eb", checked := Try.checked }
namespace Rows
def none {H : Type} : Left H := { results := [], args := [] }

/-- 'dyehouselaw11.OpTable': WHATEVER THE INPUT: true; the input reads as it did. -/
def opTableSpec : ChangeSpec := { name := "opTable", fn := fun _ => fun
  | [d1, d2] => { results := [.lit (.bool true)], args := [d1, d2] }
  | _ => none }
def opTableRow : OpenClaim := { program := "ytnlemjfkgbgogaa", sum := "d0fc69f59cbc766237f309f2269ac00e8f8a407e333caa01e7df44c07e4482eb", func := "dyehouse/dyehouselaw11.OpTable", spec := "opTable", apart := false }
def OpTableSaid : Prop := opTableRow.holds Try.pinned (OpenSpec.ofChange opTableSpec)

/-- ITS FALSE NEIGHBOUR: 'it returns false'. Refute it at one input. -/
def opTableWrong : ChangeSpec := { name := "opTable", fn := fun _ => fun
  | [d1, d2] => { results := [.lit (.bool false)], args := [d1, d2] }
  | _ => none }
def OpTableWrongFalsely : Prop := opTableRow.holds Try.pinned (OpenSpec.ofChange opTableWrong)

/-- 'dyehouselaw11.OpPlaces': WHATEVER THE INPUT: true; the input reads as it did. -/
def opPlacesSpec : ChangeSpec := { name := "opPlaces", fn := fun _ => fun
  | [d1, d2, d3, d4] => { results := [.lit (.bool true)], args := [d1, d2, d3, d4] }
  | _ => none }
def opPlacesRow : OpenClaim := { program := "ytnlemjfkgbgogaa", sum := "d0fc69f59cbc766237f309f2269ac00e8f8a407e333caa01e7df44c07e4482eb", func := "dyehouse/dyehouselaw11.OpPlaces", spec := "opPlaces", apart := false }
def OpPlacesSaid : Prop := opPlacesRow.holds Try.pinned (OpenSpec.ofChange opPlacesSpec)

/-- ITS FALSE NEIGHBOUR: 'it returns false'. Refute it at one input. -/
def opPlacesWrong : ChangeSpec := { name := "opPlaces", fn := fun _ => fun
  | [d1, d2, d3, d4] => { results := [.lit (.bool false)], args := [d1, d2, d3, d4] }
  | _ => none }
def OpPlacesWrongFalsely : Prop := opPlacesRow.holds Try.pinned (OpenSpec.ofChange opPlacesWrong)

/-- 'dyehouselaw11.OpNames': WHATEVER THE INPUT: true; the input reads as it did. -/
def opNamesSpec : ChangeSpec := { name := "opNames", fn := fun _ => fun
  | [d1, d2] => { results := [.lit (.bool true)], args := [d1, d2] }
  | _ => none }
def opNamesRow : OpenClaim := { program := "ytnlemjfkgbgogaa", sum := "d0fc69f59cbc766237f309f2269ac00e8f8a407e333caa01e7df44c07e4482eb", func := "dyehouse/dyehouselaw11.OpNames", spec := "opNames", apart := false }
def OpNamesSaid : Prop := opNamesRow.holds Try.pinned (OpenSpec.ofChange opNamesSpec)

/-- ITS FALSE NEIGHBOUR: 'it returns false'. Refute it at one input. -/
def opNamesWrong : ChangeSpec := { name := "opNames", fn := fun _ => fun
  | [d1, d2] => { results := [.lit (.bool false)], args := [d1, d2] }
  | _ => none }
def OpNamesWrongFalsely : Prop := opNamesRow.holds Try.pinned (OpenSpec.ofChange opNamesWrong)

/- THE SECOND FORM. 'bulk': how many values and letters a reading holds, each counted each time it is reached (what is shared counts as often as it is met; a slice's spare places count too). A statement '..UptoSaid' is the law's where the arguments, and the package variables that the reading takes, are together of bulk at most 1048576: NARROWER than '..Said'. Prove '..Said' where nothing that the law and all that it calls make is longer than what came in: it says more and counts as full. Else prove '..UptoSaid'. A law counts once. -/
mutual
def uptoBulk {H : Type} : DataW H → Nat
  | .lit (.string bytes) => bytes.length + 1
  | .lit _ => 1
  | .nil => 1
  | .ptr d => uptoBulk d + 1
  | .slice elems spare => uptoBulkAll elems + uptoBulkAll spare + 1
  | .agg parts => uptoBulkAll parts + 1
  | .iface _ d => uptoBulk d + 1
  | .map entries => uptoBulkEntries entries + 1
  | .held _ => 1
def uptoBulkAll {H : Type} : List (DataW H) → Nat
  | [] => 0
  | d :: r => uptoBulk d + uptoBulkAll r
def uptoBulkEntries {H : Type} : List (Lit × DataW H) → Nat
  | [] => 0
  | x :: r => uptoBulkEntry x + uptoBulkEntries r
def uptoBulkEntry {H : Type} : Lit × DataW H → Nat
  | (.string bytes, d) => bytes.length + uptoBulk d + 1
  | (_, d) => uptoBulk d + 1
 end
def uptoSmall : (H : Type) → List (DataW H) → Bool := fun _ ds => decide (uptoBulkAll ds ≤ 1048576)
def OpenSpec.upto (s : _root_.Go.ChangeSpec) : _root_.Go.OpenSpec := { _root_.Go.OpenSpec.ofChange s with cond := some uptoSmall }

/-- 'dyehouselaw11.OpTable', WHERE WHAT IT READS IS OF BULK AT MOST 1048576: true; the input reads as it did. -/
def opTableUptoRow : OpenClaim := { program := "ytnlemjfkgbgogaa", sum := "d0fc69f59cbc766237f309f2269ac00e8f8a407e333caa01e7df44c07e4482eb", func := "dyehouse/dyehouselaw11.OpTable", spec := "opTable", apart := false, narrowed := true }
def OpTableUptoSaid : Prop := opTableUptoRow.holds Try.pinned (OpenSpec.upto opTableSpec)

/-- 'dyehouselaw11.OpPlaces', WHERE WHAT IT READS IS OF BULK AT MOST 1048576: true; the input reads as it did. -/
def opPlacesUptoRow : OpenClaim := { program := "ytnlemjfkgbgogaa", sum := "d0fc69f59cbc766237f309f2269ac00e8f8a407e333caa01e7df44c07e4482eb", func := "dyehouse/dyehouselaw11.OpPlaces", spec := "opPlaces", apart := false, narrowed := true }
def OpPlacesUptoSaid : Prop := opPlacesUptoRow.holds Try.pinned (OpenSpec.upto opPlacesSpec)

/-- 'dyehouselaw11.OpNames', WHERE WHAT IT READS IS OF BULK AT MOST 1048576: true; the input reads as it did. -/
def opNamesUptoRow : OpenClaim := { program := "ytnlemjfkgbgogaa", sum := "d0fc69f59cbc766237f309f2269ac00e8f8a407e333caa01e7df44c07e4482eb", func := "dyehouse/dyehouselaw11.OpNames", spec := "opNames", apart := false, narrowed := true }
def OpNamesUptoSaid : Prop := opNamesUptoRow.holds Try.pinned (OpenSpec.upto opNamesSpec)

end Rows
end Go.Proofs.Ytnlemjfkgbgogaa
