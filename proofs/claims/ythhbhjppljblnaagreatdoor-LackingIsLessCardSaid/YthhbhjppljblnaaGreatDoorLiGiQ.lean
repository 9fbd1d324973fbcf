/- The parts that are short, by the document. Conditions: sizes; at most three parts. -/
import Derived.Test.YthhbhjppljblnaaGreatDoorLiJ41
set_option linter.unusedSimpArgs false
set_option linter.unusedVariables false
namespace Go.Proofs.YthhbhjppljblnaaGreatDoor
open Go Go.RowKit

end Go.Proofs.YthhbhjppljblnaaGreatDoor
