/-
  DERIVED. GIVEN WITH THE SEED: THE CARDS: each row of YtflcbphlhoibiaaGreatDoorRows.lean that lists a variable, with what it lists TIED to the program's text (the seventh form; the later family's looks); each row that meets fmt, with fmt's text TOLD by the authors' own Lean function (tested against real Go, not proved from fmt's source: count such statements apart). THE CARD IS WHAT COUNTS. Prove the row's statement (the work); the ties are given (YtflcbphlhoibiaaGreatDoorTie.lean); close each card by the builder's one call (the guide's Derived/Test/ToyasCard.lean, 'card_holds'). Laid BY PROGRAM, IN A SANDBOX (cutbox-door.mjs). By AI agents, Wed Nov 11 2026. No macro, syntax, notation, axiom, sorry.
-/
import Derived.Test.YtflcbphlhoibiaaGreatDoorRows
import GoSem.ClaimSeven
namespace Go.Proofs.YtflcbphlhoibiaaGreatDoor
namespace Rows

/-- THE TIED CARD OF 'gleelaw1.StandsMoved'. -/
def standsMovedCard : Claim7 := { stood := { row := standsMovedRow, standIns := [], harness := (true, "0760371048085098c58ff53382b93405fcff303e11ccf6a80dafc493ab77009f"), looks := false }, kinds := [], alts := [], laidByText := true, laidKinds := [.data, .data, .data, .data, .pinned], laidTests := true, laidLooks := .later }
def StandsMovedCardSaid : Prop := Claim7.holds Tryz.pinned (.plain (OpenSpec.ofChange standsMovedSpec)) standsMovedCard

/-- THE TIED CARD OF 'gleekeep1.MirroredTwiceIsTheSame'. -/
def mirroredTwiceIsTheSameCard : Claim7 := { stood := { row := mirroredTwiceIsTheSameRow, standIns := [], harness := (true, "0760371048085098c58ff53382b93405fcff303e11ccf6a80dafc493ab77009f"), looks := false }, kinds := [], alts := [], laidByText := true, laidKinds := [.data, .data, .data, .data, .pinned], laidTests := true, laidLooks := .later }
def MirroredTwiceIsTheSameCardSaid : Prop := Claim7.holds Tryz.pinned (.plain (OpenSpec.ofChange mirroredTwiceIsTheSameSpec)) mirroredTwiceIsTheSameCard

/-- THE SECOND FORM's CARD OF 'gleelaw1.StandsMoved'. -/
def standsMovedUptoCard : Claim7 := { stood := { row := standsMovedUptoRow, standIns := [], harness := (true, "0760371048085098c58ff53382b93405fcff303e11ccf6a80dafc493ab77009f"), looks := false }, kinds := [], alts := [], laidByText := true, laidKinds := [.data, .data, .data, .data, .pinned], laidTests := true, laidLooks := .later }
def StandsMovedUptoCardSaid : Prop := Claim7.holds Tryz.pinned (.plain (OpenSpec.upto standsMovedSpec)) standsMovedUptoCard

/-- THE SECOND FORM's CARD OF 'gleekeep1.MirroredTwiceIsTheSame'. -/
def mirroredTwiceIsTheSameUptoCard : Claim7 := { stood := { row := mirroredTwiceIsTheSameUptoRow, standIns := [], harness := (true, "0760371048085098c58ff53382b93405fcff303e11ccf6a80dafc493ab77009f"), looks := false }, kinds := [], alts := [], laidByText := true, laidKinds := [.data, .data, .data, .data, .pinned], laidTests := true, laidLooks := .later }
def MirroredTwiceIsTheSameUptoCardSaid : Prop := Claim7.holds Tryz.pinned (.plain (OpenSpec.upto mirroredTwiceIsTheSameSpec)) mirroredTwiceIsTheSameUptoCard
end Rows
end Go.Proofs.YtflcbphlhoibiaaGreatDoor
