/- An interval in its octave, by the second text. Conditions: the interval is right. -/
import Derived.Test.YtebhjmknlhmmdaaGreatDoorTuneJ
namespace Go.Proofs.YtebhjmknlhmmdaaGreatDoor
open Go Go.RowKit

theorem right_plain {x : I4} (h : rightB x = true) : rightB x.plain = true := by
  have := right_bounds h
  apply right_of_bounds
  simp only [I4.plain]
  omega

end Go.Proofs.YtebhjmknlhmmdaaGreatDoor
