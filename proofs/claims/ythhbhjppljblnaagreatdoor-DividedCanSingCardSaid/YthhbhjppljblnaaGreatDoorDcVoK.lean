/- Parts that are higher, by the document's program. Conditions: sizes. -/
import Derived.Test.YthhbhjppljblnaaGreatDoorDcJ30
set_option linter.unusedSimpArgs false
set_option linter.unusedVariables false
namespace Go.Proofs.YthhbhjppljblnaaGreatDoor
open Go Go.RowKit

end Go.Proofs.YthhbhjppljblnaaGreatDoor
