/-
  DERIVED. GIVEN WITH THE SEED: THE CARDS: each row of YtmecfeocmlbjfaaDoorRows.lean that lists a variable, with what it lists TIED to the program's text (the seventh form; the later family's looks); each row that meets fmt, with fmt's text TOLD by the authors' own Lean function (tested against real Go, not proved from fmt's source: count such statements apart). THE CARD IS WHAT COUNTS. Prove the row's statement (the work); the ties are given (YtmecfeocmlbjfaaDoorTie.lean); close each card by the builder's one call (the guide's Derived/Test/ToyasCard.lean, 'card_holds'). Laid BY PROGRAM, IN A SANDBOX (cutbox-door.mjs). By AI agents, Wed Nov 11 2026. No macro, syntax, notation, axiom, sorry.
-/
import Derived.Test.YtmecfeocmlbjfaaDoorRows
import GoSem.ClaimSeven
namespace Go.Proofs.YtmecfeocmlbjfaaDoor
namespace Rows

/-- THE TIED CARD OF 'dyehouselaw07.BitsWalks'. -/
def bitsWalksCard : Claim7 := { stood := { row := bitsWalksRow, standIns := [], harness := (true, "7ffb0c386685f5c12d2a29e2723123116e339151ff89a27c7b41cb06924754ec"), looks := false }, kinds := [], alts := [], laidByText := true, laidKinds := [.data], laidTests := true, laidLooks := .later }
def BitsWalksCardSaid : Prop := Claim7.holds Tryd.pinned (.plain (OpenSpec.ofChange bitsWalksSpec)) bitsWalksCard

/-- THE TIED CARD OF 'dyehouselaw07.BitsDoes'. -/
def bitsDoesCard : Claim7 := { stood := { row := bitsDoesRow, standIns := [], harness := (true, "7ffb0c386685f5c12d2a29e2723123116e339151ff89a27c7b41cb06924754ec"), looks := false }, kinds := [], alts := [], laidByText := true, laidKinds := [.data], laidTests := true, laidLooks := .later }
def BitsDoesCardSaid : Prop := Claim7.holds Tryd.pinned (.plain (OpenSpec.ofChange bitsDoesSpec)) bitsDoesCard

/-- THE SECOND FORM's CARD OF 'dyehouselaw07.BitsWalks'. -/
def bitsWalksUptoCard : Claim7 := { stood := { row := bitsWalksUptoRow, standIns := [], harness := (true, "7ffb0c386685f5c12d2a29e2723123116e339151ff89a27c7b41cb06924754ec"), looks := false }, kinds := [], alts := [], laidByText := true, laidKinds := [.data], laidTests := true, laidLooks := .later }
def BitsWalksUptoCardSaid : Prop := Claim7.holds Tryd.pinned (.plain (OpenSpec.upto bitsWalksSpec)) bitsWalksUptoCard

/-- THE SECOND FORM's CARD OF 'dyehouselaw07.BitsDoes'. -/
def bitsDoesUptoCard : Claim7 := { stood := { row := bitsDoesUptoRow, standIns := [], harness := (true, "7ffb0c386685f5c12d2a29e2723123116e339151ff89a27c7b41cb06924754ec"), looks := false }, kinds := [], alts := [], laidByText := true, laidKinds := [.data], laidTests := true, laidLooks := .later }
def BitsDoesUptoCardSaid : Prop := Claim7.holds Tryd.pinned (.plain (OpenSpec.upto bitsDoesSpec)) bitsDoesUptoCard
end Rows
end Go.Proofs.YtmecfeocmlbjfaaDoor
