/- The parts that are short, by the program. Conditions: sizes; at most three parts. -/
import Derived.Test.YthhbhjppljblnaaGreatDoorSiJ37
set_option linter.unusedSimpArgs false
set_option linter.unusedVariables false
namespace Go.Proofs.YthhbhjppljblnaaGreatDoor
open Go Go.RowKit

end Go.Proofs.YthhbhjppljblnaaGreatDoor
