/- The quotient of an interval, by the reference's text. Conditions: the interval is right. -/
import Derived.Test.YtebhjmknlhmmdaaGreatDoorTuneF
namespace Go.Proofs.YtebhjmknlhmmdaaGreatDoor
open Go Go.RowKit

theorem max_zero (a : Int) : ∃ m : Nat, (m : Int) = max a 0 ∧ m = a.toNat := ⟨a.toNat, by omega, rfl⟩

end Go.Proofs.YtebhjmknlhmmdaaGreatDoor
