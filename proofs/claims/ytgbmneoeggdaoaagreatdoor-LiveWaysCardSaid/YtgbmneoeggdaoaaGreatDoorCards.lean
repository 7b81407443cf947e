/-
  DERIVED. GIVEN WITH THE SEED: THE CARDS: each row of YtgbmneoeggdaoaaGreatDoorRows.lean that lists a variable, with what it lists TIED to the program's text (the seventh form; the later family's looks); each row that meets fmt, with fmt's text TOLD by the authors' own Lean function (tested against real Go, not proved from fmt's source: count such statements apart). THE CARD IS WHAT COUNTS. Prove the row's statement (the work); the ties are given (YtgbmneoeggdaoaaGreatDoorTie.lean); close each card by the builder's one call (the guide's Derived/Test/ToyasCard.lean, 'card_holds'). Laid BY PROGRAM, IN A SANDBOX (cutbox-door.mjs). By AI agents, Wed Nov 11 2026. No macro, syntax, notation, axiom, sorry.
-/
import Derived.Test.YtgbmneoeggdaoaaGreatDoorRows
import GoSem.ClaimSeven
namespace Go.Proofs.YtgbmneoeggdaoaaGreatDoor
namespace Rows

/-- THE TIED CARD OF 'dyehouselaw25.LivePresent'. -/
def livePresentCard : Claim7 := { stood := { row := livePresentRow, standIns := [], harness := (true, "b53c3c19084f6bab84ea5ca5dc21483a56051750a92ec556581173ebf5bdf10c"), looks := false }, kinds := [], alts := [], laidByText := true, laidKinds := [.data], laidTests := true, laidLooks := .later }
def LivePresentCardSaid : Prop := Claim7.holds Tryz.pinned (.plain (OpenSpec.ofChange livePresentSpec)) livePresentCard

/-- THE TIED CARD OF 'dyehouselaw25.LiveWays'. -/
def liveWaysCard : Claim7 := { stood := { row := liveWaysRow, standIns := [], harness := (true, "b53c3c19084f6bab84ea5ca5dc21483a56051750a92ec556581173ebf5bdf10c"), looks := false }, kinds := [], alts := [], laidByText := true, laidKinds := [.data], laidTests := true, laidLooks := .later }
def LiveWaysCardSaid : Prop := Claim7.holds Tryz.pinned (.plain (OpenSpec.ofChange liveWaysSpec)) liveWaysCard

/-- THE SECOND FORM's CARD OF 'dyehouselaw25.LivePresent'. -/
def livePresentUptoCard : Claim7 := { stood := { row := livePresentUptoRow, standIns := [], harness := (true, "b53c3c19084f6bab84ea5ca5dc21483a56051750a92ec556581173ebf5bdf10c"), looks := false }, kinds := [], alts := [], laidByText := true, laidKinds := [.data], laidTests := true, laidLooks := .later }
def LivePresentUptoCardSaid : Prop := Claim7.holds Tryz.pinned (.plain (OpenSpec.upto livePresentSpec)) livePresentUptoCard

/-- THE SECOND FORM's CARD OF 'dyehouselaw25.LiveWays'. -/
def liveWaysUptoCard : Claim7 := { stood := { row := liveWaysUptoRow, standIns := [], harness := (true, "b53c3c19084f6bab84ea5ca5dc21483a56051750a92ec556581173ebf5bdf10c"), looks := false }, kinds := [], alts := [], laidByText := true, laidKinds := [.data], laidTests := true, laidLooks := .later }
def LiveWaysUptoCardSaid : Prop := Claim7.holds Tryz.pinned (.plain (OpenSpec.upto liveWaysSpec)) liveWaysUptoCard
end Rows
end Go.Proofs.YtgbmneoeggdaoaaGreatDoor
