/- A text that the stream changes. Conditions: sizes. -/
import Derived.Test.YtjggcofjgeiapaaGreatDoorCwJ12
import Derived.Test.YtjggcofjgeiapaaGreatDoorCwJ4
import Derived.Laws.Runes
set_option linter.unusedSimpArgs false
set_option linter.unusedVariables false
namespace Go.Proofs.YtjggcofjgeiapaaGreatDoor
open Go Go.RowKit

end Go.Proofs.YtjggcofjgeiapaaGreatDoor
