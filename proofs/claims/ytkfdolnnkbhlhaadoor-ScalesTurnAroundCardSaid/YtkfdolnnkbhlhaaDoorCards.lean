/-
  DERIVED. GIVEN WITH THE SEED: THE CARDS: each row of YtkfdolnnkbhlhaaDoorRows.lean that lists a variable, with what it lists TIED to the program's text (the seventh form; the later family's looks); each row that meets fmt, with fmt's text TOLD by the authors' own Lean function (tested against real Go, not proved from fmt's source: count such statements apart). THE CARD IS WHAT COUNTS. Prove the row's statement (the work); the ties are given (YtkfdolnnkbhlhaaDoorTie.lean); close each card by the builder's one call (the guide's Derived/Test/ToyasCard.lean, 'card_holds'). Laid BY PROGRAM, IN A SANDBOX (cutbox-door.mjs). By AI agents, Wed Nov 11 2026. No macro, syntax, notation, axiom, sorry.
-/
import Derived.Test.YtkfdolnnkbhlhaaDoorRows
import GoSem.ClaimSeven
namespace Go.Proofs.YtkfdolnnkbhlhaaDoor
namespace Rows

/-- THE TIED CARD OF 'gleekeep1.ScalesTurnAround'. -/
def scalesTurnAroundCard : Claim7 := { stood := { row := scalesTurnAroundRow, standIns := [], harness := (true, "2aba348b7f167de2315b2346792e4e6210851a6c36bb042c3c821e121adf5601"), looks := false }, kinds := [], alts := [], laidByText := true, laidKinds := [.data, .data, .data, .data, .pinned], laidTests := true, laidLooks := .later }
def ScalesTurnAroundCardSaid : Prop := Claim7.holds Tryd.pinned (.plain (OpenSpec.ofChange scalesTurnAroundSpec)) scalesTurnAroundCard

/-- THE TIED CARD OF 'gleetop.TopShiftedMelodies'. -/
def topShiftedMelodiesCard : Claim7 := { stood := { row := topShiftedMelodiesRow, standIns := [], harness := (true, "2aba348b7f167de2315b2346792e4e6210851a6c36bb042c3c821e121adf5601"), looks := false }, kinds := [], alts := [], laidByText := true, laidKinds := [.data, .data, .data, .data, .pinned], laidTests := true, laidLooks := .later }
def TopShiftedMelodiesCardSaid : Prop := Claim7.holds Tryd.pinned (.plain (OpenSpec.ofChange topShiftedMelodiesSpec)) topShiftedMelodiesCard

/-- THE SECOND FORM's CARD OF 'gleekeep1.ScalesTurnAround'. -/
def scalesTurnAroundUptoCard : Claim7 := { stood := { row := scalesTurnAroundUptoRow, standIns := [], harness := (true, "2aba348b7f167de2315b2346792e4e6210851a6c36bb042c3c821e121adf5601"), looks := false }, kinds := [], alts := [], laidByText := true, laidKinds := [.data, .data, .data, .data, .pinned], laidTests := true, laidLooks := .later }
def ScalesTurnAroundUptoCardSaid : Prop := Claim7.holds Tryd.pinned (.plain (OpenSpec.upto scalesTurnAroundSpec)) scalesTurnAroundUptoCard

/-- THE SECOND FORM's CARD OF 'gleetop.TopShiftedMelodies'. -/
def topShiftedMelodiesUptoCard : Claim7 := { stood := { row := topShiftedMelodiesUptoRow, standIns := [], harness := (true, "2aba348b7f167de2315b2346792e4e6210851a6c36bb042c3c821e121adf5601"), looks := false }, kinds := [], alts := [], laidByText := true, laidKinds := [.data, .data, .data, .data, .pinned], laidTests := true, laidLooks := .later }
def TopShiftedMelodiesUptoCardSaid : Prop := Claim7.holds Tryd.pinned (.plain (OpenSpec.upto topShiftedMelodiesSpec)) topShiftedMelodiesUptoCard
end Rows
end Go.Proofs.YtkfdolnnkbhlhaaDoor
