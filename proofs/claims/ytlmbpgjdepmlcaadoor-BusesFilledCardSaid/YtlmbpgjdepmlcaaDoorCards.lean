/-
  DERIVED. GIVEN WITH THE SEED: THE CARDS: each row of YtlmbpgjdepmlcaaDoorRows.lean that lists a variable, with what it lists TIED to the program's text (the seventh form; the later family's looks); each row that meets fmt, with fmt's text TOLD by the authors' own Lean function (tested against real Go, not proved from fmt's source: count such statements apart). THE CARD IS WHAT COUNTS. Prove the row's statement (the work); the ties are given (YtlmbpgjdepmlcaaDoorTie.lean); close each card by the builder's one call (the guide's Derived/Test/ToyasCard.lean, 'card_holds'). Laid BY PROGRAM, IN A SANDBOX (cutbox-door.mjs). By AI agents, Wed Nov 11 2026. No macro, syntax, notation, axiom, sorry.
-/
import Derived.Test.YtlmbpgjdepmlcaaDoorRows
import GoSem.ClaimSeven
namespace Go.Proofs.YtlmbpgjdepmlcaaDoor
namespace Rows

/-- THE TIED CARD OF 'gleekeep1.WaysAreLegs'. -/
def waysAreLegsCard : Claim7 := { stood := { row := waysAreLegsRow, standIns := [], harness := (true, "f5a4f0b606f88db4daf2a8d693cf31b8d3b3169ef6b3b6671e01d11fe23573f6"), looks := false }, kinds := [], alts := [], laidByText := true, laidKinds := [.data, .data, .data, .data, .pinned], laidTests := true, laidLooks := .later }
def WaysAreLegsCardSaid : Prop := Claim7.holds Tryd.pinned (.plain (OpenSpec.ofChange waysAreLegsSpec)) waysAreLegsCard

/-- THE TIED CARD OF 'gleekeep1.BusesHoldAll'. -/
def busesHoldAllCard : Claim7 := { stood := { row := busesHoldAllRow, standIns := [], harness := (true, "f5a4f0b606f88db4daf2a8d693cf31b8d3b3169ef6b3b6671e01d11fe23573f6"), looks := false }, kinds := [], alts := [], laidByText := true, laidKinds := [.data, .data, .data, .data, .pinned], laidTests := true, laidLooks := .later }
def BusesHoldAllCardSaid : Prop := Claim7.holds Tryd.pinned (.plain (OpenSpec.ofChange busesHoldAllSpec)) busesHoldAllCard

/-- THE TIED CARD OF 'gleelaw1.BusesFilled'. -/
def busesFilledCard : Claim7 := { stood := { row := busesFilledRow, standIns := [], harness := (true, "f5a4f0b606f88db4daf2a8d693cf31b8d3b3169ef6b3b6671e01d11fe23573f6"), looks := false }, kinds := [], alts := [], laidByText := true, laidKinds := [.data, .data, .data, .data, .pinned], laidTests := true, laidLooks := .later }
def BusesFilledCardSaid : Prop := Claim7.holds Tryd.pinned (.plain (OpenSpec.ofChange busesFilledSpec)) busesFilledCard

/-- THE SECOND FORM's CARD OF 'gleekeep1.WaysAreLegs'. -/
def waysAreLegsUptoCard : Claim7 := { stood := { row := waysAreLegsUptoRow, standIns := [], harness := (true, "f5a4f0b606f88db4daf2a8d693cf31b8d3b3169ef6b3b6671e01d11fe23573f6"), looks := false }, kinds := [], alts := [], laidByText := true, laidKinds := [.data, .data, .data, .data, .pinned], laidTests := true, laidLooks := .later }
def WaysAreLegsUptoCardSaid : Prop := Claim7.holds Tryd.pinned (.plain (OpenSpec.upto waysAreLegsSpec)) waysAreLegsUptoCard

/-- THE SECOND FORM's CARD OF 'gleekeep1.BusesHoldAll'. -/
def busesHoldAllUptoCard : Claim7 := { stood := { row := busesHoldAllUptoRow, standIns := [], harness := (true, "f5a4f0b606f88db4daf2a8d693cf31b8d3b3169ef6b3b6671e01d11fe23573f6"), looks := false }, kinds := [], alts := [], laidByText := true, laidKinds := [.data, .data, .data, .data, .pinned], laidTests := true, laidLooks := .later }
def BusesHoldAllUptoCardSaid : Prop := Claim7.holds Tryd.pinned (.plain (OpenSpec.upto busesHoldAllSpec)) busesHoldAllUptoCard

/-- THE SECOND FORM's CARD OF 'gleelaw1.BusesFilled'. -/
def busesFilledUptoCard : Claim7 := { stood := { row := busesFilledUptoRow, standIns := [], harness := (true, "f5a4f0b606f88db4daf2a8d693cf31b8d3b3169ef6b3b6671e01d11fe23573f6"), looks := false }, kinds := [], alts := [], laidByText := true, laidKinds := [.data, .data, .data, .data, .pinned], laidTests := true, laidLooks := .later }
def BusesFilledUptoCardSaid : Prop := Claim7.holds Tryd.pinned (.plain (OpenSpec.upto busesFilledSpec)) busesFilledUptoCard
end Rows
end Go.Proofs.YtlmbpgjdepmlcaaDoor
