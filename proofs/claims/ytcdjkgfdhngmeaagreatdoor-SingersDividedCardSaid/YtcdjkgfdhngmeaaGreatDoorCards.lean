/-
  DERIVED. GIVEN WITH THE SEED: THE CARDS: each row of YtcdjkgfdhngmeaaGreatDoorRows.lean that lists a variable, with what it lists TIED to the program's text (the seventh form; the later family's looks); each row that meets fmt, with fmt's text TOLD by the authors' own Lean function (tested against real Go, not proved from fmt's source: count such statements apart). THE CARD IS WHAT COUNTS. Prove the row's statement (the work); the ties are given (YtcdjkgfdhngmeaaGreatDoorTie.lean); close each card by the builder's one call (the guide's Derived/Test/ToyasCard.lean, 'card_holds'). Laid BY PROGRAM, IN A SANDBOX (cutbox-door.mjs). By AI agents, Wed Nov 11 2026. No macro, syntax, notation, axiom, sorry.
-/
import Derived.Test.YtcdjkgfdhngmeaaGreatDoorRows
import GoSem.ClaimSeven
namespace Go.Proofs.YtcdjkgfdhngmeaaGreatDoor
namespace Rows

/-- THE TIED CARD OF 'gleelaw1.SingersDivided'. -/
def singersDividedCard : Claim7 := { stood := { row := singersDividedRow, standIns := [], harness := (true, "dea7dc5fabe77f0f6b25ba6242a38100c1c01ff3a7ec9130fb0ed118867660fd"), looks := false }, kinds := [], alts := [], laidByText := true, laidKinds := [.data, .pinned], laidTests := true, laidLooks := .later }
def SingersDividedCardSaid : Prop := Claim7.holds Tryz.pinned (.plain (OpenSpec.ofChange singersDividedSpec)) singersDividedCard

/-- THE SECOND FORM's CARD OF 'gleelaw1.SingersDivided'. -/
def singersDividedUptoCard : Claim7 := { stood := { row := singersDividedUptoRow, standIns := [], harness := (true, "dea7dc5fabe77f0f6b25ba6242a38100c1c01ff3a7ec9130fb0ed118867660fd"), looks := false }, kinds := [], alts := [], laidByText := true, laidKinds := [.data, .pinned], laidTests := true, laidLooks := .later }
def SingersDividedUptoCardSaid : Prop := Claim7.holds Tryz.pinned (.plain (OpenSpec.upto singersDividedSpec)) singersDividedUptoCard
end Rows
end Go.Proofs.YtcdjkgfdhngmeaaGreatDoor
