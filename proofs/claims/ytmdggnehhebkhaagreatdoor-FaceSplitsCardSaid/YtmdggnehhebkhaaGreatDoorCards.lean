/-
  DERIVED. GIVEN WITH THE SEED: THE CARDS: each row of YtmdggnehhebkhaaGreatDoorRows.lean that lists a variable, with what it lists TIED to the program's text (the seventh form; the later family's looks); each row that meets fmt, with fmt's text TOLD by the authors' own Lean function (tested against real Go, not proved from fmt's source: count such statements apart). THE CARD IS WHAT COUNTS. Prove the row's statement (the work); the ties are given (YtmdggnehhebkhaaGreatDoorTie.lean); close each card by the builder's one call (the guide's Derived/Test/ToyasCard.lean, 'card_holds'). Laid BY PROGRAM, IN A SANDBOX (cutbox-door.mjs). By AI agents, Wed Nov 11 2026. No macro, syntax, notation, axiom, sorry.
-/
import Derived.Test.YtmdggnehhebkhaaGreatDoorRows
import GoSem.ClaimSeven
namespace Go.Proofs.YtmdggnehhebkhaaGreatDoor
namespace Rows

/-- THE TIED CARD OF 'touchstonelaw27.FaceSplits'. -/
def faceSplitsCard : Claim7 := { stood := { row := faceSplitsRow, standIns := [], harness := (true, "d125ac3ad8d84dac0099625a1a1f61af14246ae46713acd6f6b48424531b06ad"), looks := true }, kinds := [], alts := [], laidByText := true, laidKinds := [.data, .data, .data, .data, .sentinel, .sentinel, .pinned], laidTests := true, laidLooks := .later }
def FaceSplitsCardSaid : Prop := Claim7.holds Tryz.pinned (.plain (OpenSpec.ofChange faceSplitsSpec)) faceSplitsCard

/-- THE SECOND FORM's CARD OF 'touchstonelaw27.FaceSplits'. -/
def faceSplitsUptoCard : Claim7 := { stood := { row := faceSplitsUptoRow, standIns := [], harness := (true, "d125ac3ad8d84dac0099625a1a1f61af14246ae46713acd6f6b48424531b06ad"), looks := true }, kinds := [], alts := [], laidByText := true, laidKinds := [.data, .data, .data, .data, .sentinel, .sentinel, .pinned], laidTests := true, laidLooks := .later }
def FaceSplitsUptoCardSaid : Prop := Claim7.holds Tryz.pinned (.plain (OpenSpec.upto faceSplitsSpec)) faceSplitsUptoCard
end Rows
end Go.Proofs.YtmdggnehhebkhaaGreatDoor
