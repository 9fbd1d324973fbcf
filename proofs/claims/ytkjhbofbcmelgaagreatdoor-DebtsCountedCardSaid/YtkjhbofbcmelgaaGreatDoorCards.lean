/-
  DERIVED. GIVEN WITH THE SEED: THE CARDS: each row of YtkjhbofbcmelgaaGreatDoorRows.lean that lists a variable, with what it lists TIED to the program's text (the seventh form; the later family's looks); each row that meets fmt, with fmt's text TOLD by the authors' own Lean function (tested against real Go, not proved from fmt's source: count such statements apart). THE CARD IS WHAT COUNTS. Prove the row's statement (the work); the ties are given (YtkjhbofbcmelgaaGreatDoorTie.lean); close each card by the builder's one call (the guide's Derived/Test/ToyasCard.lean, 'card_holds'). Laid BY PROGRAM, IN A SANDBOX (cutbox-door.mjs). By AI agents, Wed Nov 11 2026. No macro, syntax, notation, axiom, sorry.
-/
import Derived.Test.YtkjhbofbcmelgaaGreatDoorRows
import GoSem.ClaimSeven
namespace Go.Proofs.YtkjhbofbcmelgaaGreatDoor
namespace Rows

/-- THE TIED CARD OF 'gleelaw1.CopiesFollowed'. -/
def copiesFollowedCard : Claim7 := { stood := { row := copiesFollowedRow, standIns := [], harness := (true, "7ccbd2ce5948fbbf1a753d3ecd6506de7d72a49238fe3dade91e3499c4c43ba6"), looks := true }, kinds := [], alts := [], laidByText := true, laidKinds := [.data, .pinned], laidTests := true, laidLooks := .later }
def CopiesFollowedCardSaid : Prop := Claim7.holds Tryz.pinned (.plain (OpenSpec.ofChange copiesFollowedSpec)) copiesFollowedCard

/-- THE TIED CARD OF 'gleelaw1.DebtsCounted'. -/
def debtsCountedCard : Claim7 := { stood := { row := debtsCountedRow, standIns := [], harness := (true, "7ccbd2ce5948fbbf1a753d3ecd6506de7d72a49238fe3dade91e3499c4c43ba6"), looks := true }, kinds := [], alts := [], laidByText := true, laidKinds := [.data, .data, .data, .data, .pinned], laidTests := true, laidLooks := .later }
def DebtsCountedCardSaid : Prop := Claim7.holds Tryz.pinned (.plain (OpenSpec.ofChange debtsCountedSpec)) debtsCountedCard

/-- THE TIED CARD OF 'gleelaw1.ShelvesCounted'. -/
def shelvesCountedCard : Claim7 := { stood := { row := shelvesCountedRow, standIns := [], harness := (true, "7ccbd2ce5948fbbf1a753d3ecd6506de7d72a49238fe3dade91e3499c4c43ba6"), looks := true }, kinds := [], alts := [], laidByText := true, laidKinds := [.data, .data, .data, .data, .sentinel, .sentinel, .pinned], laidTests := true, laidLooks := .later }
def ShelvesCountedCardSaid : Prop := Claim7.holds Tryz.pinned (.plain (OpenSpec.ofChange shelvesCountedSpec)) shelvesCountedCard

/-- THE SECOND FORM's CARD OF 'gleelaw1.CopiesFollowed'. -/
def copiesFollowedUptoCard : Claim7 := { stood := { row := copiesFollowedUptoRow, standIns := [], harness := (true, "7ccbd2ce5948fbbf1a753d3ecd6506de7d72a49238fe3dade91e3499c4c43ba6"), looks := true }, kinds := [], alts := [], laidByText := true, laidKinds := [.data, .pinned], laidTests := true, laidLooks := .later }
def CopiesFollowedUptoCardSaid : Prop := Claim7.holds Tryz.pinned (.plain (OpenSpec.upto copiesFollowedSpec)) copiesFollowedUptoCard

/-- THE SECOND FORM's CARD OF 'gleelaw1.DebtsCounted'. -/
def debtsCountedUptoCard : Claim7 := { stood := { row := debtsCountedUptoRow, standIns := [], harness := (true, "7ccbd2ce5948fbbf1a753d3ecd6506de7d72a49238fe3dade91e3499c4c43ba6"), looks := true }, kinds := [], alts := [], laidByText := true, laidKinds := [.data, .data, .data, .data, .pinned], laidTests := true, laidLooks := .later }
def DebtsCountedUptoCardSaid : Prop := Claim7.holds Tryz.pinned (.plain (OpenSpec.upto debtsCountedSpec)) debtsCountedUptoCard

/-- THE SECOND FORM's CARD OF 'gleelaw1.ShelvesCounted'. -/
def shelvesCountedUptoCard : Claim7 := { stood := { row := shelvesCountedUptoRow, standIns := [], harness := (true, "7ccbd2ce5948fbbf1a753d3ecd6506de7d72a49238fe3dade91e3499c4c43ba6"), looks := true }, kinds := [], alts := [], laidByText := true, laidKinds := [.data, .data, .data, .data, .sentinel, .sentinel, .pinned], laidTests := true, laidLooks := .later }
def ShelvesCountedUptoCardSaid : Prop := Claim7.holds Tryz.pinned (.plain (OpenSpec.upto shelvesCountedSpec)) shelvesCountedUptoCard
end Rows
end Go.Proofs.YtkjhbofbcmelgaaGreatDoor
