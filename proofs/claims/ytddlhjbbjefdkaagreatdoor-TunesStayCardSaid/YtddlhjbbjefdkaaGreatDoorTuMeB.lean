/- Held melodies: how many intervals they can reach. Plain mathematics. Conditions: as each theorem says. -/
import Derived.Test.YtddlhjbbjefdkaaGreatDoorTuMeA
set_option linter.unusedSimpArgs false
set_option linter.unusedVariables false
namespace Go.Proofs.YtddlhjbbjefdkaaGreatDoor
open Go Go.RowKit

def addP (x y : I4) : I4 := ⟨x.a + y.a, x.b + y.b, x.c + y.c, x.d + y.d⟩
/-! ### steps of several kinds -/
end Go.Proofs.YtddlhjbbjefdkaaGreatDoor
