/-
  No cell of these rows narrows 'for every input' (looked for: loops, veiled, ifaces, maps, wideKeys, modest, calm, conditions, laid).
  DERIVED. THE GIVEN ROWS OF THIS SEAT. 4 by the template 'for every input the law returns true; each argument reads behind the call as it read before'; 0 by the template 'total and deterministic' (their statements: YtpmabjkjolhilaaTotals.lean).
  GIVEN WITH THE SEED: the statements are not yours to turn. If you find one false, say at which input.
  Laid BY PROGRAM, IN A SANDBOX (cutbox-rows.mjs): the forced cells as the released guide's own fill.sh prints them over the translation 618b7b22d4ffac22… (all of the seat's roots in one cut). By AI agents, Wed Nov 11 2026. No macro, syntax, notation, axiom, sorry.
-/
import Derived.Test.YtpmabjkjolhilaaChecked
import GoSem.Claim
import GoSem.ClaimJoined
import GoSem.ClaimMapViews
import Derived.JoinedTies
import Derived.KernelRfl
namespace Go.Proofs.Ytpmabjkjolhilaa
/- THE CELL 'sum', in the pinned program and in every row, IS THE sha256 OF THE DUMP (.gsa) THAT YtpmabjkjolhilaaProg.lean LOADS. Nothing in Lean hashes anything: it is a label: what it is worth is what the hold of that sum in a sandbox is worth. -/
noncomputable def Try.pinned : Pinned := { name := "ytpmabjkjolhilaa", sum := "618b7b22d4ffac22ec30de2bfbdb880ca39183a93378228cfb25513bffc42f41", checked := Try.checked }
namespace Rows
def none {H : Type} : Left H := { results := [], args := [] }

/-- 'dyehouselaw26.SegAsks': WHATEVER THE INPUT: true; the input reads as it did. -/
def segAsksSpec : ChangeSpec := { name := "segAsks", fn := fun _ => fun
  | [d1, d2, d3] => { results := [.lit (.bool true)], args := [d1, d2, d3] }
  | _ => none }
def segAsksRow : OpenClaim := { program := "ytpmabjkjolhilaa", sum := "618b7b22d4ffac22ec30de2bfbdb880ca39183a93378228cfb25513bffc42f41", func := "dyehouse/dyehouselaw26.SegAsks", spec := "segAsks", unfollowed := true, recurses := true, apart := false }
def SegAsksSaid : Prop := segAsksRow.holds Try.pinned (OpenSpec.ofChange segAsksSpec)

/-- ITS FALSE NEIGHBOUR: 'it returns false'. Refute it at one input. -/
def segAsksWrong : ChangeSpec := { name := "segAsks", fn := fun _ => fun
  | [d1, d2, d3] => { results := [.lit (.bool false)], args := [d1, d2, d3] }
  | _ => none }
def SegAsksWrongFalsely : Prop := segAsksRow.holds Try.pinned (OpenSpec.ofChange segAsksWrong)

/-- 'dyehouselaw26.SegKeeps': WHATEVER THE INPUT: true; the input reads as it did. -/
def segKeepsSpec : ChangeSpec := { name := "segKeeps", fn := fun _ => fun
  | [d1, d2, d3, d4] => { results := [.lit (.bool true)], args := [d1, d2, d3, d4] }
  | _ => none }
def segKeepsRow : OpenClaim := { program := "ytpmabjkjolhilaa", sum := "618b7b22d4ffac22ec30de2bfbdb880ca39183a93378228cfb25513bffc42f41", func := "dyehouse/dyehouselaw26.SegKeeps", spec := "segKeeps", unfollowed := true, recurses := true, apart := false }
def SegKeepsSaid : Prop := segKeepsRow.holds Try.pinned (OpenSpec.ofChange segKeepsSpec)

/-- ITS FALSE NEIGHBOUR: 'it returns false'. Refute it at one input. -/
def segKeepsWrong : ChangeSpec := { name := "segKeeps", fn := fun _ => fun
  | [d1, d2, d3, d4] => { results := [.lit (.bool false)], args := [d1, d2, d3, d4] }
  | _ => none }
def SegKeepsWrongFalsely : Prop := segKeepsRow.holds Try.pinned (OpenSpec.ofChange segKeepsWrong)

/-- 'dyehouselaw26.SegPuts': WHATEVER THE INPUT: true; the input reads as it did. -/
def segPutsSpec : ChangeSpec := { name := "segPuts", fn := fun _ => fun
  | [d1, d2, d3, d4] => { results := [.lit (.bool true)], args := [d1, d2, d3, d4] }
  | _ => none }
def segPutsRow : OpenClaim := { program := "ytpmabjkjolhilaa", sum := "618b7b22d4ffac22ec30de2bfbdb880ca39183a93378228cfb25513bffc42f41", func := "dyehouse/dyehouselaw26.SegPuts", spec := "segPuts", unfollowed := true, recurses := true, apart := false }
def SegPutsSaid : Prop := segPutsRow.holds Try.pinned (OpenSpec.ofChange segPutsSpec)

/-- ITS FALSE NEIGHBOUR: 'it returns false'. Refute it at one input. -/
def segPutsWrong : ChangeSpec := { name := "segPuts", fn := fun _ => fun
  | [d1, d2, d3, d4] => { results := [.lit (.bool false)], args := [d1, d2, d3, d4] }
  | _ => none }
def SegPutsWrongFalsely : Prop := segPutsRow.holds Try.pinned (OpenSpec.ofChange segPutsWrong)

/-- 'dyehouselaw26.SegSorts': WHATEVER THE INPUT: true; the input reads as it did. -/
def segSortsSpec : ChangeSpec := { name := "segSorts", fn := fun _ => fun
  | [d] => { results := [.lit (.bool true)], args := [d] }
  | _ => none }
def segSortsRow : OpenClaim := { program := "ytpmabjkjolhilaa", sum := "618b7b22d4ffac22ec30de2bfbdb880ca39183a93378228cfb25513bffc42f41", func := "dyehouse/dyehouselaw26.SegSorts", spec := "segSorts", unfollowed := true, recurses := true, apart := false }
def SegSortsSaid : Prop := segSortsRow.holds Try.pinned (OpenSpec.ofChange segSortsSpec)

/-- ITS FALSE NEIGHBOUR: 'it returns false'. Refute it at one input. -/
def segSortsWrong : ChangeSpec := { name := "segSorts", fn := fun _ => fun
  | [d] => { results := [.lit (.bool false)], args := [d] }
  | _ => none }
def SegSortsWrongFalsely : Prop := segSortsRow.holds Try.pinned (OpenSpec.ofChange segSortsWrong)

/- THE SECOND FORM. 'bulk': how many values and letters a reading holds, each counted each time it is reached (what is shared counts as often as it is met; a slice's spare places count too). A statement '..UptoSaid' is the law's where the arguments, and the package variables that the reading takes, are together of bulk at most 1048576: NARROWER than '..Said'. Prove '..Said' where nothing that the law and all that it calls make is longer than what came in: it says more and counts as full. Else prove '..UptoSaid'. A law counts once. -/
mutual
def uptoBulk {H : Type} : DataW H → Nat
  | .lit (.string bytes) => bytes.length + 1
  | .lit _ => 1
  | .nil => 1
  | .ptr d => uptoBulk d + 1
  | .slice elems spare => uptoBulkAll elems + uptoBulkAll spare + 1
  | .agg parts => uptoBulkAll parts + 1
  | .iface _ d => uptoBulk d + 1
  | .map entries => uptoBulkEntries entries + 1
  | .held _ => 1
def uptoBulkAll {H : Type} : List (DataW H) → Nat
  | [] => 0
  | d :: r => uptoBulk d + uptoBulkAll r
def uptoBulkEntries {H : Type} : List (Lit × DataW H) → Nat
  | [] => 0
  | x :: r => uptoBulkEntry x + uptoBulkEntries r
def uptoBulkEntry {H : Type} : Lit × DataW H → Nat
  | (.string bytes, d) => bytes.length + uptoBulk d + 1
  | (_, d) => uptoBulk d + 1
 end
def uptoSmall : (H : Type) → List (DataW H) → Bool := fun _ ds => decide (uptoBulkAll ds ≤ 1048576)
def OpenSpec.upto (s : _root_.Go.ChangeSpec) : _root_.Go.OpenSpec := { _root_.Go.OpenSpec.ofChange s with cond := some uptoSmall }

/-- 'dyehouselaw26.SegAsks', WHERE WHAT IT READS IS OF BULK AT MOST 1048576: true; the input reads as it did. -/
def segAsksUptoRow : OpenClaim := { program := "ytpmabjkjolhilaa", sum := "618b7b22d4ffac22ec30de2bfbdb880ca39183a93378228cfb25513bffc42f41", func := "dyehouse/dyehouselaw26.SegAsks", spec := "segAsks", unfollowed := true, recurses := true, apart := false, narrowed := true }
def SegAsksUptoSaid : Prop := segAsksUptoRow.holds Try.pinned (OpenSpec.upto segAsksSpec)

/-- 'dyehouselaw26.SegKeeps', WHERE WHAT IT READS IS OF BULK AT MOST 1048576: true; the input reads as it did. -/
def segKeepsUptoRow : OpenClaim := { program := "ytpmabjkjolhilaa", sum := "618b7b22d4ffac22ec30de2bfbdb880ca39183a93378228cfb25513bffc42f41", func := "dyehouse/dyehouselaw26.SegKeeps", spec := "segKeeps", unfollowed := true, recurses := true, apart := false, narrowed := true }
def SegKeepsUptoSaid : Prop := segKeepsUptoRow.holds Try.pinned (OpenSpec.upto segKeepsSpec)

/-- 'dyehouselaw26.SegPuts', WHERE WHAT IT READS IS OF BULK AT MOST 1048576: true; the input reads as it did. -/
def segPutsUptoRow : OpenClaim := { program := "ytpmabjkjolhilaa", sum := "618b7b22d4ffac22ec30de2bfbdb880ca39183a93378228cfb25513bffc42f41", func := "dyehouse/dyehouselaw26.SegPuts", spec := "segPuts", unfollowed := true, recurses := true, apart := false, narrowed := true }
def SegPutsUptoSaid : Prop := segPutsUptoRow.holds Try.pinned (OpenSpec.upto segPutsSpec)

/-- 'dyehouselaw26.SegSorts', WHERE WHAT IT READS IS OF BULK AT MOST 1048576: true; the input reads as it did. -/
def segSortsUptoRow : OpenClaim := { program := "ytpmabjkjolhilaa", sum := "618b7b22d4ffac22ec30de2bfbdb880ca39183a93378228cfb25513bffc42f41", func := "dyehouse/dyehouselaw26.SegSorts", spec := "segSorts", unfollowed := true, recurses := true, apart := false, narrowed := true }
def SegSortsUptoSaid : Prop := segSortsUptoRow.holds Try.pinned (OpenSpec.upto segSortsSpec)

end Rows
end Go.Proofs.Ytpmabjkjolhilaa
