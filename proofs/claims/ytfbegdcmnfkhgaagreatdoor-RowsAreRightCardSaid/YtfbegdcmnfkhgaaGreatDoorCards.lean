/-
  DERIVED. GIVEN WITH THE SEED: THE CARDS: each row of YtfbegdcmnfkhgaaGreatDoorRows.lean that lists a variable, with what it lists TIED to the program's text (the seventh form; the later family's looks); each row that meets fmt, with fmt's text TOLD by the authors' own Lean function (tested against real Go, not proved from fmt's source: count such statements apart). THE CARD IS WHAT COUNTS. Prove the row's statement (the work); the ties are given (YtfbegdcmnfkhgaaGreatDoorTie.lean); close each card by the builder's one call (the guide's Derived/Test/ToyasCard.lean, 'card_holds'). Laid BY PROGRAM, IN A SANDBOX (cutbox-door.mjs). By AI agents, Wed Nov 11 2026. No macro, syntax, notation, axiom, sorry.
-/
import Derived.Test.YtfbegdcmnfkhgaaGreatDoorRows
import GoSem.ClaimSeven
namespace Go.Proofs.YtfbegdcmnfkhgaaGreatDoor
namespace Rows

/-- THE TIED CARD OF 'gleelaw1.BestStands'. -/
def bestStandsCard : Claim7 := { stood := { row := bestStandsRow, standIns := [], harness := (true, "e9f2b50ce7b6001f2f956999ba0162eae723fbbc2ab97f66552ff27c17afef62"), looks := false }, kinds := [], alts := [], laidByText := true, laidKinds := [.data, .data, .data, .data, .pinned], laidTests := true, laidLooks := .later }
def BestStandsCardSaid : Prop := Claim7.holds Tryz.pinned (.plain (OpenSpec.ofChange bestStandsSpec)) bestStandsCard

/-- THE TIED CARD OF 'gleelaw1.RowsMade'. -/
def rowsMadeCard : Claim7 := { stood := { row := rowsMadeRow, standIns := [], harness := (true, "e9f2b50ce7b6001f2f956999ba0162eae723fbbc2ab97f66552ff27c17afef62"), looks := false }, kinds := [], alts := [], laidByText := true, laidKinds := [.data, .data, .data, .data, .pinned], laidTests := true, laidLooks := .later }
def RowsMadeCardSaid : Prop := Claim7.holds Tryz.pinned (.plain (OpenSpec.ofChange rowsMadeSpec)) rowsMadeCard

/-- THE TIED CARD OF 'gleekeep1.RowsAreRight'. -/
def rowsAreRightCard : Claim7 := { stood := { row := rowsAreRightRow, standIns := [], harness := (true, "e9f2b50ce7b6001f2f956999ba0162eae723fbbc2ab97f66552ff27c17afef62"), looks := false }, kinds := [], alts := [], laidByText := true, laidKinds := [.data, .data, .data, .data, .pinned], laidTests := true, laidLooks := .later }
def RowsAreRightCardSaid : Prop := Claim7.holds Tryz.pinned (.plain (OpenSpec.ofChange rowsAreRightSpec)) rowsAreRightCard

/-- THE TIED CARD OF 'gleekeep1.LeastIsLeast'. -/
def leastIsLeastCard : Claim7 := { stood := { row := leastIsLeastRow, standIns := [], harness := (true, "e9f2b50ce7b6001f2f956999ba0162eae723fbbc2ab97f66552ff27c17afef62"), looks := false }, kinds := [], alts := [], laidByText := true, laidKinds := [.data, .data, .data, .data, .pinned], laidTests := true, laidLooks := .later }
def LeastIsLeastCardSaid : Prop := Claim7.holds Tryz.pinned (.plain (OpenSpec.ofChange leastIsLeastSpec)) leastIsLeastCard

/-- THE SECOND FORM's CARD OF 'gleelaw1.BestStands'. -/
def bestStandsUptoCard : Claim7 := { stood := { row := bestStandsUptoRow, standIns := [], harness := (true, "e9f2b50ce7b6001f2f956999ba0162eae723fbbc2ab97f66552ff27c17afef62"), looks := false }, kinds := [], alts := [], laidByText := true, laidKinds := [.data, .data, .data, .data, .pinned], laidTests := true, laidLooks := .later }
def BestStandsUptoCardSaid : Prop := Claim7.holds Tryz.pinned (.plain (OpenSpec.upto bestStandsSpec)) bestStandsUptoCard

/-- THE SECOND FORM's CARD OF 'gleelaw1.RowsMade'. -/
def rowsMadeUptoCard : Claim7 := { stood := { row := rowsMadeUptoRow, standIns := [], harness := (true, "e9f2b50ce7b6001f2f956999ba0162eae723fbbc2ab97f66552ff27c17afef62"), looks := false }, kinds := [], alts := [], laidByText := true, laidKinds := [.data, .data, .data, .data, .pinned], laidTests := true, laidLooks := .later }
def RowsMadeUptoCardSaid : Prop := Claim7.holds Tryz.pinned (.plain (OpenSpec.upto rowsMadeSpec)) rowsMadeUptoCard

/-- THE SECOND FORM's CARD OF 'gleekeep1.RowsAreRight'. -/
def rowsAreRightUptoCard : Claim7 := { stood := { row := rowsAreRightUptoRow, standIns := [], harness := (true, "e9f2b50ce7b6001f2f956999ba0162eae723fbbc2ab97f66552ff27c17afef62"), looks := false }, kinds := [], alts := [], laidByText := true, laidKinds := [.data, .data, .data, .data, .pinned], laidTests := true, laidLooks := .later }
def RowsAreRightUptoCardSaid : Prop := Claim7.holds Tryz.pinned (.plain (OpenSpec.upto rowsAreRightSpec)) rowsAreRightUptoCard

/-- THE SECOND FORM's CARD OF 'gleekeep1.LeastIsLeast'. -/
def leastIsLeastUptoCard : Claim7 := { stood := { row := leastIsLeastUptoRow, standIns := [], harness := (true, "e9f2b50ce7b6001f2f956999ba0162eae723fbbc2ab97f66552ff27c17afef62"), looks := false }, kinds := [], alts := [], laidByText := true, laidKinds := [.data, .data, .data, .data, .pinned], laidTests := true, laidLooks := .later }
def LeastIsLeastUptoCardSaid : Prop := Claim7.holds Tryz.pinned (.plain (OpenSpec.upto leastIsLeastSpec)) leastIsLeastUptoCard
end Rows
end Go.Proofs.YtfbegdcmnfkhgaaGreatDoor
