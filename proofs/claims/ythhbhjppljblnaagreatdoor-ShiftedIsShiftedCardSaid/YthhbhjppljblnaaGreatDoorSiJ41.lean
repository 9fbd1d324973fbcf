/- How many singers a set of parts needs more than can sing one of them, by the document. Conditions: sizes. How many singers are lacking, by the document. Conditions: sizes. -/
import Derived.Test.YthhbhjppljblnaaGreatDoorSiGiN
set_option linter.unusedSimpArgs false
set_option linter.unusedVariables false
namespace Go.Proofs.YthhbhjppljblnaaGreatDoor
open Go Go.RowKit

end Go.Proofs.YthhbhjppljblnaaGreatDoor

namespace Go.Proofs.YthhbhjppljblnaaGreatDoor
open Go Go.RowKit

/-! ### the least set, by the document -/
end Go.Proofs.YthhbhjppljblnaaGreatDoor
