/-
  DERIVED. GIVEN WITH THE SEED: THE CARDS: each row of YthhbhjppljblnaaGreatDoorRows.lean that lists a variable, with what it lists TIED to the program's text (the seventh form; the later family's looks); each row that meets fmt, with fmt's text TOLD by the authors' own Lean function (tested against real Go, not proved from fmt's source: count such statements apart). THE CARD IS WHAT COUNTS. Prove the row's statement (the work); the ties are given (YthhbhjppljblnaaGreatDoorTie.lean); close each card by the builder's one call (the guide's Derived/Test/ToyasCard.lean, 'card_holds'). Laid BY PROGRAM, IN A SANDBOX (cutbox-door.mjs). By AI agents, Wed Nov 11 2026. No macro, syntax, notation, axiom, sorry.
-/
import Derived.Test.YthhbhjppljblnaaGreatDoorRows
import GoSem.ClaimSeven
namespace Go.Proofs.YthhbhjppljblnaaGreatDoor
namespace Rows

/-- THE TIED CARD OF 'gleelaw1.SingersDivided'. -/
def singersDividedCard : Claim7 := { stood := { row := singersDividedRow, standIns := [], harness := (true, "c2086c95f4f562c7dcae0266fe91685116ce595e377b7ed78c3d7afecb84a3bb"), looks := false }, kinds := [], alts := [], laidByText := true, laidKinds := [.data, .pinned], laidTests := true, laidLooks := .later }
def SingersDividedCardSaid : Prop := Claim7.holds Tryz.pinned (.plain (OpenSpec.ofChange singersDividedSpec)) singersDividedCard

/-- THE TIED CARD OF 'gleelaw1.SingersLacking'. -/
def singersLackingCard : Claim7 := { stood := { row := singersLackingRow, standIns := [], harness := (true, "c2086c95f4f562c7dcae0266fe91685116ce595e377b7ed78c3d7afecb84a3bb"), looks := false }, kinds := [], alts := [], laidByText := true, laidKinds := [.data, .pinned], laidTests := true, laidLooks := .later }
def SingersLackingCardSaid : Prop := Claim7.holds Tryz.pinned (.plain (OpenSpec.ofChange singersLackingSpec)) singersLackingCard

/-- THE TIED CARD OF 'gleekeep1.DividedCanSing'. -/
def dividedCanSingCard : Claim7 := { stood := { row := dividedCanSingRow, standIns := [], harness := (true, "c2086c95f4f562c7dcae0266fe91685116ce595e377b7ed78c3d7afecb84a3bb"), looks := false }, kinds := [], alts := [], laidByText := true, laidKinds := [.data, .data, .data, .data, .pinned], laidTests := true, laidLooks := .later }
def DividedCanSingCardSaid : Prop := Claim7.holds Tryz.pinned (.plain (OpenSpec.ofChange dividedCanSingSpec)) dividedCanSingCard

/-- THE TIED CARD OF 'gleekeep1.ShiftedIsShifted'. -/
def shiftedIsShiftedCard : Claim7 := { stood := { row := shiftedIsShiftedRow, standIns := [], harness := (true, "c2086c95f4f562c7dcae0266fe91685116ce595e377b7ed78c3d7afecb84a3bb"), looks := false }, kinds := [], alts := [], laidByText := true, laidKinds := [.data, .data, .data, .data, .pinned], laidTests := true, laidLooks := .later }
def ShiftedIsShiftedCardSaid : Prop := Claim7.holds Tryz.pinned (.plain (OpenSpec.ofChange shiftedIsShiftedSpec)) shiftedIsShiftedCard

/-- THE TIED CARD OF 'gleekeep1.LackingIsLess'. -/
def lackingIsLessCard : Claim7 := { stood := { row := lackingIsLessRow, standIns := [], harness := (true, "c2086c95f4f562c7dcae0266fe91685116ce595e377b7ed78c3d7afecb84a3bb"), looks := false }, kinds := [], alts := [], laidByText := true, laidKinds := [.data, .data, .data, .data, .pinned], laidTests := true, laidLooks := .later }
def LackingIsLessCardSaid : Prop := Claim7.holds Tryz.pinned (.plain (OpenSpec.ofChange lackingIsLessSpec)) lackingIsLessCard

/-- THE SECOND FORM's CARD OF 'gleelaw1.SingersDivided'. -/
def singersDividedUptoCard : Claim7 := { stood := { row := singersDividedUptoRow, standIns := [], harness := (true, "c2086c95f4f562c7dcae0266fe91685116ce595e377b7ed78c3d7afecb84a3bb"), looks := false }, kinds := [], alts := [], laidByText := true, laidKinds := [.data, .pinned], laidTests := true, laidLooks := .later }
def SingersDividedUptoCardSaid : Prop := Claim7.holds Tryz.pinned (.plain (OpenSpec.upto singersDividedSpec)) singersDividedUptoCard

/-- THE SECOND FORM's CARD OF 'gleelaw1.SingersLacking'. -/
def singersLackingUptoCard : Claim7 := { stood := { row := singersLackingUptoRow, standIns := [], harness := (true, "c2086c95f4f562c7dcae0266fe91685116ce595e377b7ed78c3d7afecb84a3bb"), looks := false }, kinds := [], alts := [], laidByText := true, laidKinds := [.data, .pinned], laidTests := true, laidLooks := .later }
def SingersLackingUptoCardSaid : Prop := Claim7.holds Tryz.pinned (.plain (OpenSpec.upto singersLackingSpec)) singersLackingUptoCard

/-- THE SECOND FORM's CARD OF 'gleekeep1.DividedCanSing'. -/
def dividedCanSingUptoCard : Claim7 := { stood := { row := dividedCanSingUptoRow, standIns := [], harness := (true, "c2086c95f4f562c7dcae0266fe91685116ce595e377b7ed78c3d7afecb84a3bb"), looks := false }, kinds := [], alts := [], laidByText := true, laidKinds := [.data, .data, .data, .data, .pinned], laidTests := true, laidLooks := .later }
def DividedCanSingUptoCardSaid : Prop := Claim7.holds Tryz.pinned (.plain (OpenSpec.upto dividedCanSingSpec)) dividedCanSingUptoCard

/-- THE SECOND FORM's CARD OF 'gleekeep1.ShiftedIsShifted'. -/
def shiftedIsShiftedUptoCard : Claim7 := { stood := { row := shiftedIsShiftedUptoRow, standIns := [], harness := (true, "c2086c95f4f562c7dcae0266fe91685116ce595e377b7ed78c3d7afecb84a3bb"), looks := false }, kinds := [], alts := [], laidByText := true, laidKinds := [.data, .data, .data, .data, .pinned], laidTests := true, laidLooks := .later }
def ShiftedIsShiftedUptoCardSaid : Prop := Claim7.holds Tryz.pinned (.plain (OpenSpec.upto shiftedIsShiftedSpec)) shiftedIsShiftedUptoCard

/-- THE SECOND FORM's CARD OF 'gleekeep1.LackingIsLess'. -/
def lackingIsLessUptoCard : Claim7 := { stood := { row := lackingIsLessUptoRow, standIns := [], harness := (true, "c2086c95f4f562c7dcae0266fe91685116ce595e377b7ed78c3d7afecb84a3bb"), looks := false }, kinds := [], alts := [], laidByText := true, laidKinds := [.data, .data, .data, .data, .pinned], laidTests := true, laidLooks := .later }
def LackingIsLessUptoCardSaid : Prop := Claim7.holds Tryz.pinned (.plain (OpenSpec.upto lackingIsLessSpec)) lackingIsLessUptoCard
end Rows
end Go.Proofs.YthhbhjppljblnaaGreatDoor
