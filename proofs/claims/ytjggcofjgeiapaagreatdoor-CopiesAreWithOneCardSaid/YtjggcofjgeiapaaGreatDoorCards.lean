/-
  DERIVED. GIVEN WITH THE SEED: THE CARDS: each row of YtjggcofjgeiapaaGreatDoorRows.lean that lists a variable, with what it lists TIED to the program's text (the seventh form; the later family's looks); each row that meets fmt, with fmt's text TOLD by the authors' own Lean function (tested against real Go, not proved from fmt's source: count such statements apart). THE CARD IS WHAT COUNTS. Prove the row's statement (the work); the ties are given (YtjggcofjgeiapaaGreatDoorTie.lean); close each card by the builder's one call (the guide's Derived/Test/ToyasCard.lean, 'card_holds'). Laid BY PROGRAM, IN A SANDBOX (cutbox-door.mjs). By AI agents, Wed Nov 11 2026. No macro, syntax, notation, axiom, sorry.
-/
import Derived.Test.YtjggcofjgeiapaaGreatDoorRows
import GoSem.ClaimSeven
namespace Go.Proofs.YtjggcofjgeiapaaGreatDoor
namespace Rows

/-- THE TIED CARD OF 'gleekeep1.CopiesAreWithOne'. -/
def copiesAreWithOneCard : Claim7 := { stood := { row := copiesAreWithOneRow, standIns := [], harness := (true, "f08655a3034f7212ca6f8fad6212cf38e88d3dcf4df15b9d75883fba9740f6df"), looks := true }, kinds := [], alts := [], laidByText := true, laidKinds := [.data, .data, .data, .data, .pinned], laidTests := true, laidLooks := .later }
def CopiesAreWithOneCardSaid : Prop := Claim7.holds Tryz.pinned (.plain (OpenSpec.ofChange copiesAreWithOneSpec)) copiesAreWithOneCard

/-- THE TIED CARD OF 'gleekeep1.CountedIsSeen'. -/
def countedIsSeenCard : Claim7 := { stood := { row := countedIsSeenRow, standIns := [], harness := (true, "f08655a3034f7212ca6f8fad6212cf38e88d3dcf4df15b9d75883fba9740f6df"), looks := true }, kinds := [], alts := [], laidByText := true, laidKinds := [.data, .data, .data, .data, .sentinel, .sentinel, .pinned], laidTests := true, laidLooks := .later }
def CountedIsSeenCardSaid : Prop := Claim7.holds Tryz.pinned (.plain (OpenSpec.ofChange countedIsSeenSpec)) countedIsSeenCard

/-- THE TIED CARD OF 'gleekeep1.SlipsAreOne'. -/
def slipsAreOneCard : Claim7 := { stood := { row := slipsAreOneRow, standIns := [], harness := (true, "f08655a3034f7212ca6f8fad6212cf38e88d3dcf4df15b9d75883fba9740f6df"), looks := true }, kinds := [], alts := [], laidByText := true, laidKinds := [.data, .data, .data, .data, .pinned], laidTests := true, laidLooks := .later }
def SlipsAreOneCardSaid : Prop := Claim7.holds Tryz.pinned (.plain (OpenSpec.ofChange slipsAreOneSpec)) slipsAreOneCard

/-- THE TIED CARD OF 'gleekeep1.RefusedSlipsAreNothing'. -/
def refusedSlipsAreNothingCard : Claim7 := { stood := { row := refusedSlipsAreNothingRow, standIns := [], harness := (true, "f08655a3034f7212ca6f8fad6212cf38e88d3dcf4df15b9d75883fba9740f6df"), looks := true }, kinds := [], alts := [], laidByText := true, laidKinds := [.data, .data, .data, .data, .pinned], laidTests := true, laidLooks := .later }
def RefusedSlipsAreNothingCardSaid : Prop := Claim7.holds Tryz.pinned (.plain (OpenSpec.ofChange refusedSlipsAreNothingSpec)) refusedSlipsAreNothingCard

/-- THE TIED CARD OF 'gleekeep1.CopiesStay'. -/
def copiesStayCard : Claim7 := { stood := { row := copiesStayRow, standIns := [], harness := (true, "f08655a3034f7212ca6f8fad6212cf38e88d3dcf4df15b9d75883fba9740f6df"), looks := true }, kinds := [], alts := [], laidByText := true, laidKinds := [.data, .data, .data, .data, .sentinel, .sentinel, .pinned], laidTests := true, laidLooks := .later }
def CopiesStayCardSaid : Prop := Claim7.holds Tryz.pinned (.plain (OpenSpec.ofChange copiesStaySpec)) copiesStayCard

/-- THE TIED CARD OF 'gleelaw1.SlipsKept'. -/
def slipsKeptCard : Claim7 := { stood := { row := slipsKeptRow, standIns := [], harness := (true, "f08655a3034f7212ca6f8fad6212cf38e88d3dcf4df15b9d75883fba9740f6df"), looks := true }, kinds := [], alts := [], laidByText := true, laidKinds := [.data, .data, .data, .data, .sentinel, .sentinel, .pinned], laidTests := true, laidLooks := .later }
def SlipsKeptCardSaid : Prop := Claim7.holds Tryz.pinned (.plain (OpenSpec.ofChange slipsKeptSpec)) slipsKeptCard

/-- THE SECOND FORM's CARD OF 'gleekeep1.CopiesAreWithOne'. -/
def copiesAreWithOneUptoCard : Claim7 := { stood := { row := copiesAreWithOneUptoRow, standIns := [], harness := (true, "f08655a3034f7212ca6f8fad6212cf38e88d3dcf4df15b9d75883fba9740f6df"), looks := true }, kinds := [], alts := [], laidByText := true, laidKinds := [.data, .data, .data, .data, .pinned], laidTests := true, laidLooks := .later }
def CopiesAreWithOneUptoCardSaid : Prop := Claim7.holds Tryz.pinned (.plain (OpenSpec.upto copiesAreWithOneSpec)) copiesAreWithOneUptoCard

/-- THE SECOND FORM's CARD OF 'gleekeep1.CountedIsSeen'. -/
def countedIsSeenUptoCard : Claim7 := { stood := { row := countedIsSeenUptoRow, standIns := [], harness := (true, "f08655a3034f7212ca6f8fad6212cf38e88d3dcf4df15b9d75883fba9740f6df"), looks := true }, kinds := [], alts := [], laidByText := true, laidKinds := [.data, .data, .data, .data, .sentinel, .sentinel, .pinned], laidTests := true, laidLooks := .later }
def CountedIsSeenUptoCardSaid : Prop := Claim7.holds Tryz.pinned (.plain (OpenSpec.upto countedIsSeenSpec)) countedIsSeenUptoCard

/-- THE SECOND FORM's CARD OF 'gleekeep1.SlipsAreOne'. -/
def slipsAreOneUptoCard : Claim7 := { stood := { row := slipsAreOneUptoRow, standIns := [], harness := (true, "f08655a3034f7212ca6f8fad6212cf38e88d3dcf4df15b9d75883fba9740f6df"), looks := true }, kinds := [], alts := [], laidByText := true, laidKinds := [.data, .data, .data, .data, .pinned], laidTests := true, laidLooks := .later }
def SlipsAreOneUptoCardSaid : Prop := Claim7.holds Tryz.pinned (.plain (OpenSpec.upto slipsAreOneSpec)) slipsAreOneUptoCard

/-- THE SECOND FORM's CARD OF 'gleekeep1.RefusedSlipsAreNothing'. -/
def refusedSlipsAreNothingUptoCard : Claim7 := { stood := { row := refusedSlipsAreNothingUptoRow, standIns := [], harness := (true, "f08655a3034f7212ca6f8fad6212cf38e88d3dcf4df15b9d75883fba9740f6df"), looks := true }, kinds := [], alts := [], laidByText := true, laidKinds := [.data, .data, .data, .data, .pinned], laidTests := true, laidLooks := .later }
def RefusedSlipsAreNothingUptoCardSaid : Prop := Claim7.holds Tryz.pinned (.plain (OpenSpec.upto refusedSlipsAreNothingSpec)) refusedSlipsAreNothingUptoCard

/-- THE SECOND FORM's CARD OF 'gleekeep1.CopiesStay'. -/
def copiesStayUptoCard : Claim7 := { stood := { row := copiesStayUptoRow, standIns := [], harness := (true, "f08655a3034f7212ca6f8fad6212cf38e88d3dcf4df15b9d75883fba9740f6df"), looks := true }, kinds := [], alts := [], laidByText := true, laidKinds := [.data, .data, .data, .data, .sentinel, .sentinel, .pinned], laidTests := true, laidLooks := .later }
def CopiesStayUptoCardSaid : Prop := Claim7.holds Tryz.pinned (.plain (OpenSpec.upto copiesStaySpec)) copiesStayUptoCard

/-- THE SECOND FORM's CARD OF 'gleelaw1.SlipsKept'. -/
def slipsKeptUptoCard : Claim7 := { stood := { row := slipsKeptUptoRow, standIns := [], harness := (true, "f08655a3034f7212ca6f8fad6212cf38e88d3dcf4df15b9d75883fba9740f6df"), looks := true }, kinds := [], alts := [], laidByText := true, laidKinds := [.data, .data, .data, .data, .sentinel, .sentinel, .pinned], laidTests := true, laidLooks := .later }
def SlipsKeptUptoCardSaid : Prop := Claim7.holds Tryz.pinned (.plain (OpenSpec.upto slipsKeptSpec)) slipsKeptUptoCard
end Rows
end Go.Proofs.YtjggcofjgeiapaaGreatDoor
