/-
  DERIVED. GIVEN WITH THE SEED: THE CARDS: each row of YtfmkmnnmckbljaaGreatDoorRows.lean that lists a variable, with what it lists TIED to the program's text (the seventh form; the later family's looks); each row that meets fmt, with fmt's text TOLD by the authors' own Lean function (tested against real Go, not proved from fmt's source: count such statements apart). THE CARD IS WHAT COUNTS. Prove the row's statement (the work); the ties are given (YtfmkmnnmckbljaaGreatDoorTie.lean); close each card by the builder's one call (the guide's Derived/Test/ToyasCard.lean, 'card_holds'). Laid BY PROGRAM, IN A SANDBOX (cutbox-door.mjs). By AI agents, Wed Nov 11 2026. No macro, syntax, notation, axiom, sorry.
-/
import Derived.Test.YtfmkmnnmckbljaaGreatDoorRows
import GoSem.ClaimSeven
namespace Go.Proofs.YtfmkmnnmckbljaaGreatDoor
namespace Rows

/-- THE TIED CARD OF 'gleelaw1.StandsChecked'. -/
def standsCheckedCard : Claim7 := { stood := { row := standsCheckedRow, standIns := [], harness := (true, "35dd1c5dce73d96949a1f08c10ae96362910e26d264e68a4660f2e5a49717d03"), looks := false }, kinds := [], alts := [], laidByText := true, laidKinds := [.data, .data, .data, .data, .pinned], laidTests := true, laidLooks := .later }
def StandsCheckedCardSaid : Prop := Claim7.holds Tryz.pinned (.plain (OpenSpec.ofChange standsCheckedSpec)) standsCheckedCard

/-- THE TIED CARD OF 'gleekeep1.LiftedAreSeen'. -/
def liftedAreSeenCard : Claim7 := { stood := { row := liftedAreSeenRow, standIns := [], harness := (true, "35dd1c5dce73d96949a1f08c10ae96362910e26d264e68a4660f2e5a49717d03"), looks := false }, kinds := [], alts := [], laidByText := true, laidKinds := [.data, .data, .data, .data, .pinned], laidTests := true, laidLooks := .later }
def LiftedAreSeenCardSaid : Prop := Claim7.holds Tryz.pinned (.plain (OpenSpec.ofChange liftedAreSeenSpec)) liftedAreSeenCard

/-- THE SECOND FORM's CARD OF 'gleelaw1.StandsChecked'. -/
def standsCheckedUptoCard : Claim7 := { stood := { row := standsCheckedUptoRow, standIns := [], harness := (true, "35dd1c5dce73d96949a1f08c10ae96362910e26d264e68a4660f2e5a49717d03"), looks := false }, kinds := [], alts := [], laidByText := true, laidKinds := [.data, .data, .data, .data, .pinned], laidTests := true, laidLooks := .later }
def StandsCheckedUptoCardSaid : Prop := Claim7.holds Tryz.pinned (.plain (OpenSpec.upto standsCheckedSpec)) standsCheckedUptoCard

/-- THE SECOND FORM's CARD OF 'gleekeep1.LiftedAreSeen'. -/
def liftedAreSeenUptoCard : Claim7 := { stood := { row := liftedAreSeenUptoRow, standIns := [], harness := (true, "35dd1c5dce73d96949a1f08c10ae96362910e26d264e68a4660f2e5a49717d03"), looks := false }, kinds := [], alts := [], laidByText := true, laidKinds := [.data, .data, .data, .data, .pinned], laidTests := true, laidLooks := .later }
def LiftedAreSeenUptoCardSaid : Prop := Claim7.holds Tryz.pinned (.plain (OpenSpec.upto liftedAreSeenSpec)) liftedAreSeenUptoCard
end Rows
end Go.Proofs.YtfmkmnnmckbljaaGreatDoor
