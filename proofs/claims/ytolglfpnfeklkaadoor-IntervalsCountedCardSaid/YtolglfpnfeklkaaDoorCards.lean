/-
  DERIVED. GIVEN WITH THE SEED: THE CARDS: each row of YtolglfpnfeklkaaDoorRows.lean that lists a variable, with what it lists TIED to the program's text (the seventh form; the later family's looks); each row that meets fmt, with fmt's text TOLD by the authors' own Lean function (tested against real Go, not proved from fmt's source: count such statements apart). THE CARD IS WHAT COUNTS. Prove the row's statement (the work); the ties are given (YtolglfpnfeklkaaDoorTie.lean); close each card by the builder's one call (the guide's Derived/Test/ToyasCard.lean, 'card_holds'). Laid BY PROGRAM, IN A SANDBOX (cutbox-door.mjs). By AI agents, Wed Nov 11 2026. No macro, syntax, notation, axiom, sorry.
-/
import Derived.Test.YtolglfpnfeklkaaDoorRows
import GoSem.ClaimSeven
namespace Go.Proofs.YtolglfpnfeklkaaDoor
namespace Rows

/-- THE TIED CARD OF 'gleelaw1.IntervalsCounted'. -/
def intervalsCountedCard : Claim7 := { stood := { row := intervalsCountedRow, standIns := [], harness := (true, "ca87a55def0d8123f0007a9618bc57a34c5723323e9649e186a2ab5e4dbe436a"), looks := false }, kinds := [], alts := [], laidByText := true, laidKinds := [.data, .data, .data], laidTests := true, laidLooks := .later }
def IntervalsCountedCardSaid : Prop := Claim7.holds Tryd.pinned (.plain (OpenSpec.ofChange intervalsCountedSpec)) intervalsCountedCard

/-- THE SECOND FORM's CARD OF 'gleelaw1.IntervalsCounted'. -/
def intervalsCountedUptoCard : Claim7 := { stood := { row := intervalsCountedUptoRow, standIns := [], harness := (true, "ca87a55def0d8123f0007a9618bc57a34c5723323e9649e186a2ab5e4dbe436a"), looks := false }, kinds := [], alts := [], laidByText := true, laidKinds := [.data, .data, .data], laidTests := true, laidLooks := .later }
def IntervalsCountedUptoCardSaid : Prop := Claim7.holds Tryd.pinned (.plain (OpenSpec.upto intervalsCountedSpec)) intervalsCountedUptoCard
end Rows
end Go.Proofs.YtolglfpnfeklkaaDoor
