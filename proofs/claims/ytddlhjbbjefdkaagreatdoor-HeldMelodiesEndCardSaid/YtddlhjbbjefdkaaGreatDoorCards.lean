/-
  DERIVED. GIVEN WITH THE SEED: THE CARDS: each row of YtddlhjbbjefdkaaGreatDoorRows.lean that lists a variable, with what it lists TIED to the program's text (the seventh form; the later family's looks); each row that meets fmt, with fmt's text TOLD by the authors' own Lean function (tested against real Go, not proved from fmt's source: count such statements apart). THE CARD IS WHAT COUNTS. Prove the row's statement (the work); the ties are given (YtddlhjbbjefdkaaGreatDoorTie.lean); close each card by the builder's one call (the guide's Derived/Test/ToyasCard.lean, 'card_holds'). Laid BY PROGRAM, IN A SANDBOX (cutbox-door.mjs). By AI agents, Wed Nov 11 2026. No macro, syntax, notation, axiom, sorry.
-/
import Derived.Test.YtddlhjbbjefdkaaGreatDoorRows
import GoSem.ClaimSeven
namespace Go.Proofs.YtddlhjbbjefdkaaGreatDoor
namespace Rows

/-- THE TIED CARD OF 'gleekeep1.HeldMelodiesEnd'. -/
def heldMelodiesEndCard : Claim7 := { stood := { row := heldMelodiesEndRow, standIns := [], harness := (true, "243e1ffcba8c189c57ed90f243dca92fe2c6afedf39db3169382fc16d4ef48de"), looks := false }, kinds := [], alts := [], laidByText := true, laidKinds := [.data, .data, .data, .data, .pinned], laidTests := true, laidLooks := .later }
def HeldMelodiesEndCardSaid : Prop := Claim7.holds Tryz.pinned (.plain (OpenSpec.ofChange heldMelodiesEndSpec)) heldMelodiesEndCard

/-- THE TIED CARD OF 'gleekeep1.TunesStay'. -/
def tunesStayCard : Claim7 := { stood := { row := tunesStayRow, standIns := [], harness := (true, "243e1ffcba8c189c57ed90f243dca92fe2c6afedf39db3169382fc16d4ef48de"), looks := false }, kinds := [], alts := [], laidByText := true, laidKinds := [.data, .data, .data, .data, .pinned], laidTests := true, laidLooks := .later }
def TunesStayCardSaid : Prop := Claim7.holds Tryz.pinned (.plain (OpenSpec.ofChange tunesStaySpec)) tunesStayCard

/-- THE TIED CARD OF 'gleetop.TopScalesAndMelodies'. -/
def topScalesAndMelodiesCard : Claim7 := { stood := { row := topScalesAndMelodiesRow, standIns := [], harness := (true, "243e1ffcba8c189c57ed90f243dca92fe2c6afedf39db3169382fc16d4ef48de"), looks := false }, kinds := [], alts := [], laidByText := true, laidKinds := [.data, .data, .data, .data, .pinned], laidTests := true, laidLooks := .later }
def TopScalesAndMelodiesCardSaid : Prop := Claim7.holds Tryz.pinned (.plain (OpenSpec.ofChange topScalesAndMelodiesSpec)) topScalesAndMelodiesCard

/-- THE SECOND FORM's CARD OF 'gleekeep1.HeldMelodiesEnd'. -/
def heldMelodiesEndUptoCard : Claim7 := { stood := { row := heldMelodiesEndUptoRow, standIns := [], harness := (true, "243e1ffcba8c189c57ed90f243dca92fe2c6afedf39db3169382fc16d4ef48de"), looks := false }, kinds := [], alts := [], laidByText := true, laidKinds := [.data, .data, .data, .data, .pinned], laidTests := true, laidLooks := .later }
def HeldMelodiesEndUptoCardSaid : Prop := Claim7.holds Tryz.pinned (.plain (OpenSpec.upto heldMelodiesEndSpec)) heldMelodiesEndUptoCard

/-- THE SECOND FORM's CARD OF 'gleekeep1.TunesStay'. -/
def tunesStayUptoCard : Claim7 := { stood := { row := tunesStayUptoRow, standIns := [], harness := (true, "243e1ffcba8c189c57ed90f243dca92fe2c6afedf39db3169382fc16d4ef48de"), looks := false }, kinds := [], alts := [], laidByText := true, laidKinds := [.data, .data, .data, .data, .pinned], laidTests := true, laidLooks := .later }
def TunesStayUptoCardSaid : Prop := Claim7.holds Tryz.pinned (.plain (OpenSpec.upto tunesStaySpec)) tunesStayUptoCard

/-- THE SECOND FORM's CARD OF 'gleetop.TopScalesAndMelodies'. -/
def topScalesAndMelodiesUptoCard : Claim7 := { stood := { row := topScalesAndMelodiesUptoRow, standIns := [], harness := (true, "243e1ffcba8c189c57ed90f243dca92fe2c6afedf39db3169382fc16d4ef48de"), looks := false }, kinds := [], alts := [], laidByText := true, laidKinds := [.data, .data, .data, .data, .pinned], laidTests := true, laidLooks := .later }
def TopScalesAndMelodiesUptoCardSaid : Prop := Claim7.holds Tryz.pinned (.plain (OpenSpec.upto topScalesAndMelodiesSpec)) topScalesAndMelodiesUptoCard
end Rows
end Go.Proofs.YtddlhjbbjefdkaaGreatDoor
