/-
  DERIVED. GIVEN WITH THE SEED: THE CARDS: each row of YtfcoeikekbjgpaaGreatDoorRows.lean that lists a variable, with what it lists TIED to the program's text (the seventh form; the later family's looks); each row that meets fmt, with fmt's text TOLD by the authors' own Lean function (tested against real Go, not proved from fmt's source: count such statements apart). THE CARD IS WHAT COUNTS. Prove the row's statement (the work); the ties are given (YtfcoeikekbjgpaaGreatDoorTie.lean); close each card by the builder's one call (the guide's Derived/Test/ToyasCard.lean, 'card_holds'). Laid BY PROGRAM, IN A SANDBOX (cutbox-door.mjs). By AI agents, Wed Nov 11 2026. No macro, syntax, notation, axiom, sorry.
-/
import Derived.Test.YtfcoeikekbjgpaaGreatDoorRows
import GoSem.ClaimSeven
namespace Go.Proofs.YtfcoeikekbjgpaaGreatDoor
namespace Rows

/-- THE TIED CARD OF 'gleelaw1.RowsMade'. -/
def rowsMadeCard : Claim7 := { stood := { row := rowsMadeRow, standIns := [], harness := (true, "b341db430de4cf3a9004e30d118b9b2c35a10f4ea9d4cab7dadf0890145db977"), looks := false }, kinds := [], alts := [], laidByText := true, laidKinds := [.data, .data, .data, .data, .pinned], laidTests := true, laidLooks := .later }
def RowsMadeCardSaid : Prop := Claim7.holds Tryz.pinned (.plain (OpenSpec.ofChange rowsMadeSpec)) rowsMadeCard

/-- THE TIED CARD OF 'gleekeep1.StandsStay'. -/
def standsStayCard : Claim7 := { stood := { row := standsStayRow, standIns := [], harness := (true, "b341db430de4cf3a9004e30d118b9b2c35a10f4ea9d4cab7dadf0890145db977"), looks := false }, kinds := [], alts := [], laidByText := true, laidKinds := [.data, .data, .data, .data, .pinned], laidTests := true, laidLooks := .later }
def StandsStayCardSaid : Prop := Claim7.holds Tryz.pinned (.plain (OpenSpec.ofChange standsStaySpec)) standsStayCard

/-- THE SECOND FORM's CARD OF 'gleelaw1.RowsMade'. -/
def rowsMadeUptoCard : Claim7 := { stood := { row := rowsMadeUptoRow, standIns := [], harness := (true, "b341db430de4cf3a9004e30d118b9b2c35a10f4ea9d4cab7dadf0890145db977"), looks := false }, kinds := [], alts := [], laidByText := true, laidKinds := [.data, .data, .data, .data, .pinned], laidTests := true, laidLooks := .later }
def RowsMadeUptoCardSaid : Prop := Claim7.holds Tryz.pinned (.plain (OpenSpec.upto rowsMadeSpec)) rowsMadeUptoCard

/-- THE SECOND FORM's CARD OF 'gleekeep1.StandsStay'. -/
def standsStayUptoCard : Claim7 := { stood := { row := standsStayUptoRow, standIns := [], harness := (true, "b341db430de4cf3a9004e30d118b9b2c35a10f4ea9d4cab7dadf0890145db977"), looks := false }, kinds := [], alts := [], laidByText := true, laidKinds := [.data, .data, .data, .data, .pinned], laidTests := true, laidLooks := .later }
def StandsStayUptoCardSaid : Prop := Claim7.holds Tryz.pinned (.plain (OpenSpec.upto standsStaySpec)) standsStayUptoCard
end Rows
end Go.Proofs.YtfcoeikekbjgpaaGreatDoor
