/- A text that the stream changes. Conditions: sizes. -/
import Derived.Test.YtehboinleolihaaGreatDoorCzJ10
import Derived.Test.YtehboinleolihaaGreatDoorCzJ4
import Derived.Laws.Runes
set_option linter.unusedSimpArgs false
set_option linter.unusedVariables false
namespace Go.Proofs.YtehboinleolihaaGreatDoor
open Go Go.RowKit
end Go.Proofs.YtehboinleolihaaGreatDoor
