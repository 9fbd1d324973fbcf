/- Slips of two lists are merged, by the document's text. Conditions: sizes. (Printed by gen_ska.py.) -/
import Derived.Test.YtehboinleolihaaGreatDoorCzMgC
import Derived.Test.YtehboinleolihaaGreatDoorCzJ17
import Derived.Test.YtehboinleolihaaGreatDoorCzFactsB
set_option linter.unusedSimpArgs false
set_option linter.unusedVariables false
namespace Go.Proofs.YtehboinleolihaaGreatDoor
open Go Go.RowKit Go.Maps Go.Sort
/-! ### the merge -/
end Go.Proofs.YtehboinleolihaaGreatDoor
