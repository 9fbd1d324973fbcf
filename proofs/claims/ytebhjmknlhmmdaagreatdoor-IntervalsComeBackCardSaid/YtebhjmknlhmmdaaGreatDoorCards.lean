/-
  DERIVED. GIVEN WITH THE SEED: THE CARDS: each row of YtebhjmknlhmmdaaGreatDoorRows.lean that lists a variable, with what it lists TIED to the program's text (the seventh form; the later family's looks); each row that meets fmt, with fmt's text TOLD by the authors' own Lean function (tested against real Go, not proved from fmt's source: count such statements apart). THE CARD IS WHAT COUNTS. Prove the row's statement (the work); the ties are given (YtebhjmknlhmmdaaGreatDoorTie.lean); close each card by the builder's one call (the guide's Derived/Test/ToyasCard.lean, 'card_holds'). Laid BY PROGRAM, IN A SANDBOX (cutbox-door.mjs). By AI agents, Wed Nov 11 2026. No macro, syntax, notation, axiom, sorry.
-/
import Derived.Test.YtebhjmknlhmmdaaGreatDoorRows
import GoSem.ClaimSeven
namespace Go.Proofs.YtebhjmknlhmmdaaGreatDoor
namespace Rows

/-- THE TIED CARD OF 'gleekeep1.IntervalsComeBack'. -/
def intervalsComeBackCard : Claim7 := { stood := { row := intervalsComeBackRow, standIns := [], harness := (true, "16ce281c662ed5d2d79a3c4c026af2a930d67ae3691d1f5837e126e9f7c00637"), looks := true }, kinds := [], alts := [], laidByText := true, laidKinds := [.data, .data, .data, .data, .sentinel, .sentinel, .pinned], laidTests := true, laidLooks := .later }
def IntervalsComeBackCardSaid : Prop := Claim7.holds Tryz.pinned (.plain (OpenSpec.ofChange intervalsComeBackSpec)) intervalsComeBackCard

/-- THE SECOND FORM's CARD OF 'gleekeep1.IntervalsComeBack'. -/
def intervalsComeBackUptoCard : Claim7 := { stood := { row := intervalsComeBackUptoRow, standIns := [], harness := (true, "16ce281c662ed5d2d79a3c4c026af2a930d67ae3691d1f5837e126e9f7c00637"), looks := true }, kinds := [], alts := [], laidByText := true, laidKinds := [.data, .data, .data, .data, .sentinel, .sentinel, .pinned], laidTests := true, laidLooks := .later }
def IntervalsComeBackUptoCardSaid : Prop := Claim7.holds Tryz.pinned (.plain (OpenSpec.upto intervalsComeBackSpec)) intervalsComeBackUptoCard
end Rows
end Go.Proofs.YtebhjmknlhmmdaaGreatDoor
