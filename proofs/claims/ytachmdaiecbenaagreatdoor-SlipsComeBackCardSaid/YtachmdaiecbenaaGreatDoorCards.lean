/-
  DERIVED. GIVEN WITH THE SEED: THE CARDS: each row of YtachmdaiecbenaaGreatDoorRows.lean that lists a variable, with what it lists TIED to the program's text (the seventh form; the later family's looks); each row that meets fmt, with fmt's text TOLD by the authors' own Lean function (tested against real Go, not proved from fmt's source: count such statements apart). THE CARD IS WHAT COUNTS. Prove the row's statement (the work); the ties are given (YtachmdaiecbenaaGreatDoorTie.lean); close each card by the builder's one call (the guide's Derived/Test/ToyasCard.lean, 'card_holds'). Laid BY PROGRAM, IN A SANDBOX (cutbox-door.mjs). By AI agents, Wed Nov 11 2026. No macro, syntax, notation, axiom, sorry.
-/
import Derived.Test.YtachmdaiecbenaaGreatDoorRows
import GoSem.ClaimSeven
namespace Go.Proofs.YtachmdaiecbenaaGreatDoor
namespace Rows

/-- THE TIED CARD OF 'gleekeep1.SlipsComeBack'. -/
def slipsComeBackCard : Claim7 := { stood := { row := slipsComeBackRow, standIns := [], harness := (true, "b9d81ed81fc55025e84066ec9f30713fe9853a020eab167f36c1bc8eb5d068cf"), looks := true }, kinds := [], alts := [], laidByText := true, laidKinds := [.data, .data, .data, .data, .sentinel, .sentinel, .pinned], laidTests := true, laidLooks := .later }
def SlipsComeBackCardSaid : Prop := Claim7.holds Tryz.pinned (.plain (OpenSpec.ofChange slipsComeBackSpec)) slipsComeBackCard

/-- THE TIED CARD OF 'gleekeep1.SlipsAreOne'. -/
def slipsAreOneCard : Claim7 := { stood := { row := slipsAreOneRow, standIns := [], harness := (true, "b9d81ed81fc55025e84066ec9f30713fe9853a020eab167f36c1bc8eb5d068cf"), looks := true }, kinds := [], alts := [], laidByText := true, laidKinds := [.data, .data, .data, .data, .pinned], laidTests := true, laidLooks := .later }
def SlipsAreOneCardSaid : Prop := Claim7.holds Tryz.pinned (.plain (OpenSpec.ofChange slipsAreOneSpec)) slipsAreOneCard

/-- THE SECOND FORM's CARD OF 'gleekeep1.SlipsComeBack'. -/
def slipsComeBackUptoCard : Claim7 := { stood := { row := slipsComeBackUptoRow, standIns := [], harness := (true, "b9d81ed81fc55025e84066ec9f30713fe9853a020eab167f36c1bc8eb5d068cf"), looks := true }, kinds := [], alts := [], laidByText := true, laidKinds := [.data, .data, .data, .data, .sentinel, .sentinel, .pinned], laidTests := true, laidLooks := .later }
def SlipsComeBackUptoCardSaid : Prop := Claim7.holds Tryz.pinned (.plain (OpenSpec.upto slipsComeBackSpec)) slipsComeBackUptoCard

/-- THE SECOND FORM's CARD OF 'gleekeep1.SlipsAreOne'. -/
def slipsAreOneUptoCard : Claim7 := { stood := { row := slipsAreOneUptoRow, standIns := [], harness := (true, "b9d81ed81fc55025e84066ec9f30713fe9853a020eab167f36c1bc8eb5d068cf"), looks := true }, kinds := [], alts := [], laidByText := true, laidKinds := [.data, .data, .data, .data, .pinned], laidTests := true, laidLooks := .later }
def SlipsAreOneUptoCardSaid : Prop := Claim7.holds Tryz.pinned (.plain (OpenSpec.upto slipsAreOneSpec)) slipsAreOneUptoCard
end Rows
end Go.Proofs.YtachmdaiecbenaaGreatDoor
