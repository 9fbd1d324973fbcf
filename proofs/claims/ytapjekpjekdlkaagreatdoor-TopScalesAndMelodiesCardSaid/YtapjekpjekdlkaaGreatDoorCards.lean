/-
  DERIVED. GIVEN WITH THE SEED: THE CARDS: each row of YtapjekpjekdlkaaGreatDoorRows.lean that lists a variable, with what it lists TIED to the program's text (the seventh form; the later family's looks); each row that meets fmt, with fmt's text TOLD by the authors' own Lean function (tested against real Go, not proved from fmt's source: count such statements apart). THE CARD IS WHAT COUNTS. Prove the row's statement (the work); the ties are given (YtapjekpjekdlkaaGreatDoorTie.lean); close each card by the builder's one call (the guide's Derived/Test/ToyasCard.lean, 'card_holds'). Laid BY PROGRAM, IN A SANDBOX (cutbox-door.mjs). By AI agents, Wed Nov 11 2026. No macro, syntax, notation, axiom, sorry.
-/
import Derived.Test.YtapjekpjekdlkaaGreatDoorRows
import GoSem.ClaimSeven
namespace Go.Proofs.YtapjekpjekdlkaaGreatDoor
namespace Rows

/-- THE TIED CARD OF 'gleetop.TopScalesAndMelodies'. -/
def topScalesAndMelodiesCard : Claim7 := { stood := { row := topScalesAndMelodiesRow, standIns := [], harness := (true, "389247634a4000959806b68d15f1fa5cde4cd8fe6710235f30a42fe374e9cc08"), looks := false }, kinds := [], alts := [], laidByText := true, laidKinds := [.data, .data, .data, .data, .pinned], laidTests := true, laidLooks := .later }
def TopScalesAndMelodiesCardSaid : Prop := Claim7.holds Tryz.pinned (.plain (OpenSpec.ofChange topScalesAndMelodiesSpec)) topScalesAndMelodiesCard

/-- THE SECOND FORM's CARD OF 'gleetop.TopScalesAndMelodies'. -/
def topScalesAndMelodiesUptoCard : Claim7 := { stood := { row := topScalesAndMelodiesUptoRow, standIns := [], harness := (true, "389247634a4000959806b68d15f1fa5cde4cd8fe6710235f30a42fe374e9cc08"), looks := false }, kinds := [], alts := [], laidByText := true, laidKinds := [.data, .data, .data, .data, .pinned], laidTests := true, laidLooks := .later }
def TopScalesAndMelodiesUptoCardSaid : Prop := Claim7.holds Tryz.pinned (.plain (OpenSpec.upto topScalesAndMelodiesSpec)) topScalesAndMelodiesUptoCard
end Rows
end Go.Proofs.YtapjekpjekdlkaaGreatDoor
