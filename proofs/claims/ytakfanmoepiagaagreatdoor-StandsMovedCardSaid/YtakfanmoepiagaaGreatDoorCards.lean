/-
  DERIVED. GIVEN WITH THE SEED: THE CARDS: each row of YtakfanmoepiagaaGreatDoorRows.lean that lists a variable, with what it lists TIED to the program's text (the seventh form; the later family's looks); each row that meets fmt, with fmt's text TOLD by the authors' own Lean function (tested against real Go, not proved from fmt's source: count such statements apart). THE CARD IS WHAT COUNTS. Prove the row's statement (the work); the ties are given (YtakfanmoepiagaaGreatDoorTie.lean); close each card by the builder's one call (the guide's Derived/Test/ToyasCard.lean, 'card_holds'). Laid BY PROGRAM, IN A SANDBOX (cutbox-door.mjs). By AI agents, Wed Nov 11 2026. No macro, syntax, notation, axiom, sorry.
-/
import Derived.Test.YtakfanmoepiagaaGreatDoorRows
import GoSem.ClaimSeven
namespace Go.Proofs.YtakfanmoepiagaaGreatDoor
namespace Rows

/-- THE TIED CARD OF 'gleelaw1.BestStands'. -/
def bestStandsCard : Claim7 := { stood := { row := bestStandsRow, standIns := [], harness := (true, "ebc34f6683d30713ae2d4f71239276e5cf58fd97a3fceda6550f38d2391bc6b0"), looks := false }, kinds := [], alts := [], laidByText := true, laidKinds := [.data, .data, .data, .data, .pinned], laidTests := true, laidLooks := .later }
def BestStandsCardSaid : Prop := Claim7.holds Tryz.pinned (.plain (OpenSpec.ofChange bestStandsSpec)) bestStandsCard

/-- THE TIED CARD OF 'gleelaw1.RowsMade'. -/
def rowsMadeCard : Claim7 := { stood := { row := rowsMadeRow, standIns := [], harness := (true, "ebc34f6683d30713ae2d4f71239276e5cf58fd97a3fceda6550f38d2391bc6b0"), looks := false }, kinds := [], alts := [], laidByText := true, laidKinds := [.data, .data, .data, .data, .pinned], laidTests := true, laidLooks := .later }
def RowsMadeCardSaid : Prop := Claim7.holds Tryz.pinned (.plain (OpenSpec.ofChange rowsMadeSpec)) rowsMadeCard

/-- THE TIED CARD OF 'gleelaw1.StandsMoved'. -/
def standsMovedCard : Claim7 := { stood := { row := standsMovedRow, standIns := [], harness := (true, "ebc34f6683d30713ae2d4f71239276e5cf58fd97a3fceda6550f38d2391bc6b0"), looks := false }, kinds := [], alts := [], laidByText := true, laidKinds := [.data, .data, .data, .data, .pinned], laidTests := true, laidLooks := .later }
def StandsMovedCardSaid : Prop := Claim7.holds Tryz.pinned (.plain (OpenSpec.ofChange standsMovedSpec)) standsMovedCard

/-- THE TIED CARD OF 'gleekeep1.MirroredTwiceIsTheSame'. -/
def mirroredTwiceIsTheSameCard : Claim7 := { stood := { row := mirroredTwiceIsTheSameRow, standIns := [], harness := (true, "ebc34f6683d30713ae2d4f71239276e5cf58fd97a3fceda6550f38d2391bc6b0"), looks := false }, kinds := [], alts := [], laidByText := true, laidKinds := [.data, .data, .data, .data, .pinned], laidTests := true, laidLooks := .later }
def MirroredTwiceIsTheSameCardSaid : Prop := Claim7.holds Tryz.pinned (.plain (OpenSpec.ofChange mirroredTwiceIsTheSameSpec)) mirroredTwiceIsTheSameCard

/-- THE SECOND FORM's CARD OF 'gleelaw1.BestStands'. -/
def bestStandsUptoCard : Claim7 := { stood := { row := bestStandsUptoRow, standIns := [], harness := (true, "ebc34f6683d30713ae2d4f71239276e5cf58fd97a3fceda6550f38d2391bc6b0"), looks := false }, kinds := [], alts := [], laidByText := true, laidKinds := [.data, .data, .data, .data, .pinned], laidTests := true, laidLooks := .later }
def BestStandsUptoCardSaid : Prop := Claim7.holds Tryz.pinned (.plain (OpenSpec.upto bestStandsSpec)) bestStandsUptoCard

/-- THE SECOND FORM's CARD OF 'gleelaw1.RowsMade'. -/
def rowsMadeUptoCard : Claim7 := { stood := { row := rowsMadeUptoRow, standIns := [], harness := (true, "ebc34f6683d30713ae2d4f71239276e5cf58fd97a3fceda6550f38d2391bc6b0"), looks := false }, kinds := [], alts := [], laidByText := true, laidKinds := [.data, .data, .data, .data, .pinned], laidTests := true, laidLooks := .later }
def RowsMadeUptoCardSaid : Prop := Claim7.holds Tryz.pinned (.plain (OpenSpec.upto rowsMadeSpec)) rowsMadeUptoCard

/-- THE SECOND FORM's CARD OF 'gleelaw1.StandsMoved'. -/
def standsMovedUptoCard : Claim7 := { stood := { row := standsMovedUptoRow, standIns := [], harness := (true, "ebc34f6683d30713ae2d4f71239276e5cf58fd97a3fceda6550f38d2391bc6b0"), looks := false }, kinds := [], alts := [], laidByText := true, laidKinds := [.data, .data, .data, .data, .pinned], laidTests := true, laidLooks := .later }
def StandsMovedUptoCardSaid : Prop := Claim7.holds Tryz.pinned (.plain (OpenSpec.upto standsMovedSpec)) standsMovedUptoCard

/-- THE SECOND FORM's CARD OF 'gleekeep1.MirroredTwiceIsTheSame'. -/
def mirroredTwiceIsTheSameUptoCard : Claim7 := { stood := { row := mirroredTwiceIsTheSameUptoRow, standIns := [], harness := (true, "ebc34f6683d30713ae2d4f71239276e5cf58fd97a3fceda6550f38d2391bc6b0"), looks := false }, kinds := [], alts := [], laidByText := true, laidKinds := [.data, .data, .data, .data, .pinned], laidTests := true, laidLooks := .later }
def MirroredTwiceIsTheSameUptoCardSaid : Prop := Claim7.holds Tryz.pinned (.plain (OpenSpec.upto mirroredTwiceIsTheSameSpec)) mirroredTwiceIsTheSameUptoCard
end Rows
end Go.Proofs.YtakfanmoepiagaaGreatDoor
