/- Lists that are equal; the probe. Conditions: as each theorem says. -/
import Derived.Test.YthhbhjppljblnaaGreatDoorLiGiR
import Derived.Laws.StructEq
set_option linter.unusedSimpArgs false
set_option linter.unusedVariables false
namespace Go.Proofs.YthhbhjppljblnaaGreatDoor
open Go Go.RowKit

theorem Elems.int {w : World} {b off : Nat} {xs : List Int} (h : Elems 1 intC w b off xs) {i : Nat} {x : Int} (hx : xs[i]? = some x) : w.cell? ⟨b, off + i, none⟩ = some (.int .i64 x) := by
  have := h i x hx 0 (.int .i64 x) rfl
  simpa using this
end Go.Proofs.YthhbhjppljblnaaGreatDoor
