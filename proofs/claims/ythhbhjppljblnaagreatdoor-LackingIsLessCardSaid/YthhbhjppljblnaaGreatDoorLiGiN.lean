/- Who can sing which part, by the document. Conditions: sizes. -/
import Derived.Test.YthhbhjppljblnaaGreatDoorLiGiM
set_option linter.unusedSimpArgs false
set_option linter.unusedVariables false
namespace Go.Proofs.YthhbhjppljblnaaGreatDoor
open Go Go.RowKit

end Go.Proofs.YthhbhjppljblnaaGreatDoor
