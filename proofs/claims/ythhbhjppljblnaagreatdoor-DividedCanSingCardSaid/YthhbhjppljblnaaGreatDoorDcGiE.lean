/- How many singers are lacking, by the program: the greatest need of a set of parts. Conditions: the choir lies in memory. -/
import Derived.Test.YthhbhjppljblnaaGreatDoorDcGiD
import Derived.Deep.OwnRows
set_option linter.unusedSimpArgs false
set_option linter.unusedVariables false
namespace Go.Proofs.YthhbhjppljblnaaGreatDoor
open Go Go.RowKit

end Go.Proofs.YthhbhjppljblnaaGreatDoor
