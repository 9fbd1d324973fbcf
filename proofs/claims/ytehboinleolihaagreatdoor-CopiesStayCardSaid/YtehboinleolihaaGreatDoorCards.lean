/-
  DERIVED. GIVEN WITH THE SEED: THE CARDS: each row of YtehboinleolihaaGreatDoorRows.lean that lists a variable, with what it lists TIED to the program's text (the seventh form; the later family's looks); each row that meets fmt, with fmt's text TOLD by the authors' own Lean function (tested against real Go, not proved from fmt's source: count such statements apart). THE CARD IS WHAT COUNTS. Prove the row's statement (the work); the ties are given (YtehboinleolihaaGreatDoorTie.lean); close each card by the builder's one call (the guide's Derived/Test/ToyasCard.lean, 'card_holds'). Laid BY PROGRAM, IN A SANDBOX (cutbox-door.mjs). By AI agents, Wed Nov 11 2026. No macro, syntax, notation, axiom, sorry.
-/
import Derived.Test.YtehboinleolihaaGreatDoorRows
import GoSem.ClaimSeven
namespace Go.Proofs.YtehboinleolihaaGreatDoor
namespace Rows

/-- THE TIED CARD OF 'gleelaw1.CopiesFollowed'. -/
def copiesFollowedCard : Claim7 := { stood := { row := copiesFollowedRow, standIns := [], harness := (true, "838d62fef9b1772a211a8387dd9bb98dbc5a00874f82dbf0a8e97a40eb409d82"), looks := true }, kinds := [], alts := [], laidByText := true, laidKinds := [.data, .pinned], laidTests := true, laidLooks := .later }
def CopiesFollowedCardSaid : Prop := Claim7.holds Tryz.pinned (.plain (OpenSpec.ofChange copiesFollowedSpec)) copiesFollowedCard

/-- THE TIED CARD OF 'gleelaw1.DebtsCounted'. -/
def debtsCountedCard : Claim7 := { stood := { row := debtsCountedRow, standIns := [], harness := (true, "838d62fef9b1772a211a8387dd9bb98dbc5a00874f82dbf0a8e97a40eb409d82"), looks := true }, kinds := [], alts := [], laidByText := true, laidKinds := [.data, .data, .data, .data, .pinned], laidTests := true, laidLooks := .later }
def DebtsCountedCardSaid : Prop := Claim7.holds Tryz.pinned (.plain (OpenSpec.ofChange debtsCountedSpec)) debtsCountedCard

/-- THE TIED CARD OF 'gleekeep1.RefusedSlipsAreNothing'. -/
def refusedSlipsAreNothingCard : Claim7 := { stood := { row := refusedSlipsAreNothingRow, standIns := [], harness := (true, "838d62fef9b1772a211a8387dd9bb98dbc5a00874f82dbf0a8e97a40eb409d82"), looks := true }, kinds := [], alts := [], laidByText := true, laidKinds := [.data, .data, .data, .data, .pinned], laidTests := true, laidLooks := .later }
def RefusedSlipsAreNothingCardSaid : Prop := Claim7.holds Tryz.pinned (.plain (OpenSpec.ofChange refusedSlipsAreNothingSpec)) refusedSlipsAreNothingCard

/-- THE TIED CARD OF 'gleelaw1.ShelvesCounted'. -/
def shelvesCountedCard : Claim7 := { stood := { row := shelvesCountedRow, standIns := [], harness := (true, "838d62fef9b1772a211a8387dd9bb98dbc5a00874f82dbf0a8e97a40eb409d82"), looks := true }, kinds := [], alts := [], laidByText := true, laidKinds := [.data, .data, .data, .data, .sentinel, .sentinel, .pinned], laidTests := true, laidLooks := .later }
def ShelvesCountedCardSaid : Prop := Claim7.holds Tryz.pinned (.plain (OpenSpec.ofChange shelvesCountedSpec)) shelvesCountedCard

/-- THE TIED CARD OF 'gleekeep1.CopiesStay'. -/
def copiesStayCard : Claim7 := { stood := { row := copiesStayRow, standIns := [], harness := (true, "838d62fef9b1772a211a8387dd9bb98dbc5a00874f82dbf0a8e97a40eb409d82"), looks := true }, kinds := [], alts := [], laidByText := true, laidKinds := [.data, .data, .data, .data, .sentinel, .sentinel, .pinned], laidTests := true, laidLooks := .later }
def CopiesStayCardSaid : Prop := Claim7.holds Tryz.pinned (.plain (OpenSpec.ofChange copiesStaySpec)) copiesStayCard

/-- THE TIED CARD OF 'gleelaw1.SlipsKept'. -/
def slipsKeptCard : Claim7 := { stood := { row := slipsKeptRow, standIns := [], harness := (true, "838d62fef9b1772a211a8387dd9bb98dbc5a00874f82dbf0a8e97a40eb409d82"), looks := true }, kinds := [], alts := [], laidByText := true, laidKinds := [.data, .data, .data, .data, .sentinel, .sentinel, .pinned], laidTests := true, laidLooks := .later }
def SlipsKeptCardSaid : Prop := Claim7.holds Tryz.pinned (.plain (OpenSpec.ofChange slipsKeptSpec)) slipsKeptCard

/-- THE SECOND FORM's CARD OF 'gleelaw1.CopiesFollowed'. -/
def copiesFollowedUptoCard : Claim7 := { stood := { row := copiesFollowedUptoRow, standIns := [], harness := (true, "838d62fef9b1772a211a8387dd9bb98dbc5a00874f82dbf0a8e97a40eb409d82"), looks := true }, kinds := [], alts := [], laidByText := true, laidKinds := [.data, .pinned], laidTests := true, laidLooks := .later }
def CopiesFollowedUptoCardSaid : Prop := Claim7.holds Tryz.pinned (.plain (OpenSpec.upto copiesFollowedSpec)) copiesFollowedUptoCard

/-- THE SECOND FORM's CARD OF 'gleelaw1.DebtsCounted'. -/
def debtsCountedUptoCard : Claim7 := { stood := { row := debtsCountedUptoRow, standIns := [], harness := (true, "838d62fef9b1772a211a8387dd9bb98dbc5a00874f82dbf0a8e97a40eb409d82"), looks := true }, kinds := [], alts := [], laidByText := true, laidKinds := [.data, .data, .data, .data, .pinned], laidTests := true, laidLooks := .later }
def DebtsCountedUptoCardSaid : Prop := Claim7.holds Tryz.pinned (.plain (OpenSpec.upto debtsCountedSpec)) debtsCountedUptoCard

/-- THE SECOND FORM's CARD OF 'gleekeep1.RefusedSlipsAreNothing'. -/
def refusedSlipsAreNothingUptoCard : Claim7 := { stood := { row := refusedSlipsAreNothingUptoRow, standIns := [], harness := (true, "838d62fef9b1772a211a8387dd9bb98dbc5a00874f82dbf0a8e97a40eb409d82"), looks := true }, kinds := [], alts := [], laidByText := true, laidKinds := [.data, .data, .data, .data, .pinned], laidTests := true, laidLooks := .later }
def RefusedSlipsAreNothingUptoCardSaid : Prop := Claim7.holds Tryz.pinned (.plain (OpenSpec.upto refusedSlipsAreNothingSpec)) refusedSlipsAreNothingUptoCard

/-- THE SECOND FORM's CARD OF 'gleelaw1.ShelvesCounted'. -/
def shelvesCountedUptoCard : Claim7 := { stood := { row := shelvesCountedUptoRow, standIns := [], harness := (true, "838d62fef9b1772a211a8387dd9bb98dbc5a00874f82dbf0a8e97a40eb409d82"), looks := true }, kinds := [], alts := [], laidByText := true, laidKinds := [.data, .data, .data, .data, .sentinel, .sentinel, .pinned], laidTests := true, laidLooks := .later }
def ShelvesCountedUptoCardSaid : Prop := Claim7.holds Tryz.pinned (.plain (OpenSpec.upto shelvesCountedSpec)) shelvesCountedUptoCard

/-- THE SECOND FORM's CARD OF 'gleekeep1.CopiesStay'. -/
def copiesStayUptoCard : Claim7 := { stood := { row := copiesStayUptoRow, standIns := [], harness := (true, "838d62fef9b1772a211a8387dd9bb98dbc5a00874f82dbf0a8e97a40eb409d82"), looks := true }, kinds := [], alts := [], laidByText := true, laidKinds := [.data, .data, .data, .data, .sentinel, .sentinel, .pinned], laidTests := true, laidLooks := .later }
def CopiesStayUptoCardSaid : Prop := Claim7.holds Tryz.pinned (.plain (OpenSpec.upto copiesStaySpec)) copiesStayUptoCard

/-- THE SECOND FORM's CARD OF 'gleelaw1.SlipsKept'. -/
def slipsKeptUptoCard : Claim7 := { stood := { row := slipsKeptUptoRow, standIns := [], harness := (true, "838d62fef9b1772a211a8387dd9bb98dbc5a00874f82dbf0a8e97a40eb409d82"), looks := true }, kinds := [], alts := [], laidByText := true, laidKinds := [.data, .data, .data, .data, .sentinel, .sentinel, .pinned], laidTests := true, laidLooks := .later }
def SlipsKeptUptoCardSaid : Prop := Claim7.holds Tryz.pinned (.plain (OpenSpec.upto slipsKeptSpec)) slipsKeptUptoCard
end Rows
end Go.Proofs.YtehboinleolihaaGreatDoor
