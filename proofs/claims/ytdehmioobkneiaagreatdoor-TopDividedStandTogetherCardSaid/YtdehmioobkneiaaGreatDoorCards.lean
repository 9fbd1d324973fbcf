/-
  DERIVED. GIVEN WITH THE SEED: THE CARDS: each row of YtdehmioobkneiaaGreatDoorRows.lean that lists a variable, with what it lists TIED to the program's text (the seventh form; the later family's looks); each row that meets fmt, with fmt's text TOLD by the authors' own Lean function (tested against real Go, not proved from fmt's source: count such statements apart). THE CARD IS WHAT COUNTS. Prove the row's statement (the work); the ties are given (YtdehmioobkneiaaGreatDoorTie.lean); close each card by the builder's one call (the guide's Derived/Test/ToyasCard.lean, 'card_holds'). Laid BY PROGRAM, IN A SANDBOX (cutbox-door.mjs). By AI agents, Wed Nov 11 2026. No macro, syntax, notation, axiom, sorry.
-/
import Derived.Test.YtdehmioobkneiaaGreatDoorRows
import GoSem.ClaimSeven
namespace Go.Proofs.YtdehmioobkneiaaGreatDoor
namespace Rows

/-- THE TIED CARD OF 'gleetop.TopDividedStandTogether'. -/
def topDividedStandTogetherCard : Claim7 := { stood := { row := topDividedStandTogetherRow, standIns := [], harness := (true, "6b5072633182269a83b0a5a985f57bff58b2c6d58c02f7c666becfe7c56b237e"), looks := false }, kinds := [], alts := [], laidByText := true, laidKinds := [.data, .data, .data, .data, .pinned], laidTests := true, laidLooks := .later }
def TopDividedStandTogetherCardSaid : Prop := Claim7.holds Tryz.pinned (.plain (OpenSpec.ofChange topDividedStandTogetherSpec)) topDividedStandTogetherCard

/-- THE TIED CARD OF 'gleekeep1.VoicesStay'. -/
def voicesStayCard : Claim7 := { stood := { row := voicesStayRow, standIns := [], harness := (true, "6b5072633182269a83b0a5a985f57bff58b2c6d58c02f7c666becfe7c56b237e"), looks := false }, kinds := [], alts := [], laidByText := true, laidKinds := [.data, .data, .data, .data, .pinned], laidTests := true, laidLooks := .later }
def VoicesStayCardSaid : Prop := Claim7.holds Tryz.pinned (.plain (OpenSpec.ofChange voicesStaySpec)) voicesStayCard

/-- THE SECOND FORM's CARD OF 'gleetop.TopDividedStandTogether'. -/
def topDividedStandTogetherUptoCard : Claim7 := { stood := { row := topDividedStandTogetherUptoRow, standIns := [], harness := (true, "6b5072633182269a83b0a5a985f57bff58b2c6d58c02f7c666becfe7c56b237e"), looks := false }, kinds := [], alts := [], laidByText := true, laidKinds := [.data, .data, .data, .data, .pinned], laidTests := true, laidLooks := .later }
def TopDividedStandTogetherUptoCardSaid : Prop := Claim7.holds Tryz.pinned (.plain (OpenSpec.upto topDividedStandTogetherSpec)) topDividedStandTogetherUptoCard

/-- THE SECOND FORM's CARD OF 'gleekeep1.VoicesStay'. -/
def voicesStayUptoCard : Claim7 := { stood := { row := voicesStayUptoRow, standIns := [], harness := (true, "6b5072633182269a83b0a5a985f57bff58b2c6d58c02f7c666becfe7c56b237e"), looks := false }, kinds := [], alts := [], laidByText := true, laidKinds := [.data, .data, .data, .data, .pinned], laidTests := true, laidLooks := .later }
def VoicesStayUptoCardSaid : Prop := Claim7.holds Tryz.pinned (.plain (OpenSpec.upto voicesStaySpec)) voicesStayUptoCard
end Rows
end Go.Proofs.YtdehmioobkneiaaGreatDoor
