/-
  DERIVED. GIVEN WITH THE SEED: THE CARDS: each row of YtjfmpgohkjoneaaGreatDoorRows.lean that lists a variable, with what it lists TIED to the program's text (the seventh form; the later family's looks); each row that meets fmt, with fmt's text TOLD by the authors' own Lean function (tested against real Go, not proved from fmt's source: count such statements apart). THE CARD IS WHAT COUNTS. Prove the row's statement (the work); the ties are given (YtjfmpgohkjoneaaGreatDoorTie.lean); close each card by the builder's one call (the guide's Derived/Test/ToyasCard.lean, 'card_holds'). Laid BY PROGRAM, IN A SANDBOX (cutbox-door.mjs). By AI agents, Wed Nov 11 2026. No macro, syntax, notation, axiom, sorry.
-/
import Derived.Test.YtjfmpgohkjoneaaGreatDoorRows
import GoSem.ClaimSeven
namespace Go.Proofs.YtjfmpgohkjoneaaGreatDoor
namespace Rows

/-- THE TIED CARD OF 'gleelaw1.SingersLacking'. -/
def singersLackingCard : Claim7 := { stood := { row := singersLackingRow, standIns := [], harness := (true, "dce4e57b3f71fa9e799f0e2bf8bdf278509f4d0d2633b47ff51c4f9bfdfea01e"), looks := false }, kinds := [], alts := [], laidByText := true, laidKinds := [.data, .pinned], laidTests := true, laidLooks := .later }
def SingersLackingCardSaid : Prop := Claim7.holds Tryz.pinned (.plain (OpenSpec.ofChange singersLackingSpec)) singersLackingCard

/-- THE TIED CARD OF 'gleekeep1.ShiftedIsShifted'. -/
def shiftedIsShiftedCard : Claim7 := { stood := { row := shiftedIsShiftedRow, standIns := [], harness := (true, "dce4e57b3f71fa9e799f0e2bf8bdf278509f4d0d2633b47ff51c4f9bfdfea01e"), looks := false }, kinds := [], alts := [], laidByText := true, laidKinds := [.data, .data, .data, .data, .pinned], laidTests := true, laidLooks := .later }
def ShiftedIsShiftedCardSaid : Prop := Claim7.holds Tryz.pinned (.plain (OpenSpec.ofChange shiftedIsShiftedSpec)) shiftedIsShiftedCard

/-- THE TIED CARD OF 'gleekeep1.LackingIsLess'. -/
def lackingIsLessCard : Claim7 := { stood := { row := lackingIsLessRow, standIns := [], harness := (true, "dce4e57b3f71fa9e799f0e2bf8bdf278509f4d0d2633b47ff51c4f9bfdfea01e"), looks := false }, kinds := [], alts := [], laidByText := true, laidKinds := [.data, .data, .data, .data, .pinned], laidTests := true, laidLooks := .later }
def LackingIsLessCardSaid : Prop := Claim7.holds Tryz.pinned (.plain (OpenSpec.ofChange lackingIsLessSpec)) lackingIsLessCard

/-- THE TIED CARD OF 'gleelaw1.PartsSung'. -/
def partsSungCard : Claim7 := { stood := { row := partsSungRow, standIns := [], harness := (true, "dce4e57b3f71fa9e799f0e2bf8bdf278509f4d0d2633b47ff51c4f9bfdfea01e"), looks := false }, kinds := [], alts := [], laidByText := true, laidKinds := [.data, .pinned], laidTests := true, laidLooks := .later }
def PartsSungCardSaid : Prop := Claim7.holds Tryz.pinned (.plain (OpenSpec.ofChange partsSungSpec)) partsSungCard

/-- THE SECOND FORM's CARD OF 'gleelaw1.SingersLacking'. -/
def singersLackingUptoCard : Claim7 := { stood := { row := singersLackingUptoRow, standIns := [], harness := (true, "dce4e57b3f71fa9e799f0e2bf8bdf278509f4d0d2633b47ff51c4f9bfdfea01e"), looks := false }, kinds := [], alts := [], laidByText := true, laidKinds := [.data, .pinned], laidTests := true, laidLooks := .later }
def SingersLackingUptoCardSaid : Prop := Claim7.holds Tryz.pinned (.plain (OpenSpec.upto singersLackingSpec)) singersLackingUptoCard

/-- THE SECOND FORM's CARD OF 'gleekeep1.ShiftedIsShifted'. -/
def shiftedIsShiftedUptoCard : Claim7 := { stood := { row := shiftedIsShiftedUptoRow, standIns := [], harness := (true, "dce4e57b3f71fa9e799f0e2bf8bdf278509f4d0d2633b47ff51c4f9bfdfea01e"), looks := false }, kinds := [], alts := [], laidByText := true, laidKinds := [.data, .data, .data, .data, .pinned], laidTests := true, laidLooks := .later }
def ShiftedIsShiftedUptoCardSaid : Prop := Claim7.holds Tryz.pinned (.plain (OpenSpec.upto shiftedIsShiftedSpec)) shiftedIsShiftedUptoCard

/-- THE SECOND FORM's CARD OF 'gleekeep1.LackingIsLess'. -/
def lackingIsLessUptoCard : Claim7 := { stood := { row := lackingIsLessUptoRow, standIns := [], harness := (true, "dce4e57b3f71fa9e799f0e2bf8bdf278509f4d0d2633b47ff51c4f9bfdfea01e"), looks := false }, kinds := [], alts := [], laidByText := true, laidKinds := [.data, .data, .data, .data, .pinned], laidTests := true, laidLooks := .later }
def LackingIsLessUptoCardSaid : Prop := Claim7.holds Tryz.pinned (.plain (OpenSpec.upto lackingIsLessSpec)) lackingIsLessUptoCard

/-- THE SECOND FORM's CARD OF 'gleelaw1.PartsSung'. -/
def partsSungUptoCard : Claim7 := { stood := { row := partsSungUptoRow, standIns := [], harness := (true, "dce4e57b3f71fa9e799f0e2bf8bdf278509f4d0d2633b47ff51c4f9bfdfea01e"), looks := false }, kinds := [], alts := [], laidByText := true, laidKinds := [.data, .pinned], laidTests := true, laidLooks := .later }
def PartsSungUptoCardSaid : Prop := Claim7.holds Tryz.pinned (.plain (OpenSpec.upto partsSungSpec)) partsSungUptoCard
end Rows
end Go.Proofs.YtjfmpgohkjoneaaGreatDoor
