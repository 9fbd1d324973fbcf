/- By how many half tones parts can be shifted so that nobody is lacking, by the document. Conditions: sizes. -/
import Derived.Test.YthhbhjppljblnaaGreatDoorLiGiQ
set_option linter.unusedSimpArgs false
set_option linter.unusedVariables false
namespace Go.Proofs.YthhbhjppljblnaaGreatDoor
open Go Go.RowKit

end Go.Proofs.YthhbhjppljblnaaGreatDoor
