/- How many bits a small set has; lists of numbers compared. Conditions: sizes. -/
import Derived.Test.YthhbhjppljblnaaGreatDoorSiJ35
set_option linter.unusedSimpArgs false
set_option linter.unusedVariables false
namespace Go.Proofs.YthhbhjppljblnaaGreatDoor
open Go Go.RowKit

end Go.Proofs.YthhbhjppljblnaaGreatDoor
