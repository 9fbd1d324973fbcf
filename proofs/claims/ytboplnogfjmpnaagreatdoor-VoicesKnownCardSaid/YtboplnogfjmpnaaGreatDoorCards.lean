/-
  DERIVED. GIVEN WITH THE SEED: THE CARDS: each row of YtboplnogfjmpnaaGreatDoorRows.lean that lists a variable, with what it lists TIED to the program's text (the seventh form; the later family's looks); each row that meets fmt, with fmt's text TOLD by the authors' own Lean function (tested against real Go, not proved from fmt's source: count such statements apart). THE CARD IS WHAT COUNTS. Prove the row's statement (the work); the ties are given (YtboplnogfjmpnaaGreatDoorTie.lean); close each card by the builder's one call (the guide's Derived/Test/ToyasCard.lean, 'card_holds'). Laid BY PROGRAM, IN A SANDBOX (cutbox-door.mjs). By AI agents, Wed Nov 11 2026. No macro, syntax, notation, axiom, sorry.
-/
import Derived.Test.YtboplnogfjmpnaaGreatDoorRows
import GoSem.ClaimSeven
namespace Go.Proofs.YtboplnogfjmpnaaGreatDoor
namespace Rows

/-- THE TIED CARD OF 'gleekeep1.VoicesComeBack'. -/
def voicesComeBackCard : Claim7 := { stood := { row := voicesComeBackRow, standIns := [], harness := (true, "65aae5110ac811d8a04e77ef7d2ff28c73717605c31c9eaecdd9d16f6c55423d"), looks := true }, kinds := [], alts := [], laidByText := true, laidKinds := [.data, .data, .data, .data, .sentinel, .sentinel, .pinned], laidTests := true, laidLooks := .later }
def VoicesComeBackCardSaid : Prop := Claim7.holds Tryz.pinned (.plain (OpenSpec.ofChange voicesComeBackSpec)) voicesComeBackCard

/-- THE TIED CARD OF 'gleelaw1.VoicesKnown'. -/
def voicesKnownCard : Claim7 := { stood := { row := voicesKnownRow, standIns := [], harness := (true, "65aae5110ac811d8a04e77ef7d2ff28c73717605c31c9eaecdd9d16f6c55423d"), looks := true }, kinds := [], alts := [], laidByText := true, laidKinds := [.data, .data, .data, .data, .sentinel, .sentinel, .pinned], laidTests := true, laidLooks := .later }
def VoicesKnownCardSaid : Prop := Claim7.holds Tryz.pinned (.plain (OpenSpec.ofChange voicesKnownSpec)) voicesKnownCard

/-- THE SECOND FORM's CARD OF 'gleekeep1.VoicesComeBack'. -/
def voicesComeBackUptoCard : Claim7 := { stood := { row := voicesComeBackUptoRow, standIns := [], harness := (true, "65aae5110ac811d8a04e77ef7d2ff28c73717605c31c9eaecdd9d16f6c55423d"), looks := true }, kinds := [], alts := [], laidByText := true, laidKinds := [.data, .data, .data, .data, .sentinel, .sentinel, .pinned], laidTests := true, laidLooks := .later }
def VoicesComeBackUptoCardSaid : Prop := Claim7.holds Tryz.pinned (.plain (OpenSpec.upto voicesComeBackSpec)) voicesComeBackUptoCard

/-- THE SECOND FORM's CARD OF 'gleelaw1.VoicesKnown'. -/
def voicesKnownUptoCard : Claim7 := { stood := { row := voicesKnownUptoRow, standIns := [], harness := (true, "65aae5110ac811d8a04e77ef7d2ff28c73717605c31c9eaecdd9d16f6c55423d"), looks := true }, kinds := [], alts := [], laidByText := true, laidKinds := [.data, .data, .data, .data, .sentinel, .sentinel, .pinned], laidTests := true, laidLooks := .later }
def VoicesKnownUptoCardSaid : Prop := Claim7.holds Tryz.pinned (.plain (OpenSpec.upto voicesKnownSpec)) voicesKnownUptoCard
end Rows
end Go.Proofs.YtboplnogfjmpnaaGreatDoor
