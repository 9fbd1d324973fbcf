/-
  DERIVED. GIVEN WITH THE SEED: THE CARDS: each row of YtapjekpjekdlkaaDoorRows.lean that lists a variable, with what it lists TIED to the program's text (the seventh form; the later family's looks); each row that meets fmt, with fmt's text TOLD by the authors' own Lean function (tested against real Go, not proved from fmt's source: count such statements apart). THE CARD IS WHAT COUNTS. Prove the row's statement (the work); the ties are given (YtapjekpjekdlkaaDoorTie.lean); close each card by the builder's one call (the guide's Derived/Test/ToyasCard.lean, 'card_holds'). Laid BY PROGRAM, IN A SANDBOX (cutbox-door.mjs). By AI agents, Wed Nov 11 2026. No macro, syntax, notation, axiom, sorry.
-/
import Derived.Test.YtapjekpjekdlkaaDoorRows
import GoSem.ClaimSeven
namespace Go.Proofs.YtapjekpjekdlkaaDoor
namespace Rows

/-- THE TIED CARD OF 'gleelaw1.MelodiesHeld'. -/
def melodiesHeldCard : Claim7 := { stood := { row := melodiesHeldRow, standIns := [], harness := (true, "a45d93b6a3397ca291a4dfc48734811b948f9accdc4d71da925aa197e86f8860"), looks := false }, kinds := [], alts := [], laidByText := true, laidKinds := [.data, .data, .data], laidTests := true, laidLooks := .later }
def MelodiesHeldCardSaid : Prop := Claim7.holds Tryd.pinned (.plain (OpenSpec.ofChange melodiesHeldSpec)) melodiesHeldCard

/-- THE SECOND FORM's CARD OF 'gleelaw1.MelodiesHeld'. -/
def melodiesHeldUptoCard : Claim7 := { stood := { row := melodiesHeldUptoRow, standIns := [], harness := (true, "a45d93b6a3397ca291a4dfc48734811b948f9accdc4d71da925aa197e86f8860"), looks := false }, kinds := [], alts := [], laidByText := true, laidKinds := [.data, .data, .data], laidTests := true, laidLooks := .later }
def MelodiesHeldUptoCardSaid : Prop := Claim7.holds Tryd.pinned (.plain (OpenSpec.upto melodiesHeldSpec)) melodiesHeldUptoCard
end Rows
end Go.Proofs.YtapjekpjekdlkaaDoor
