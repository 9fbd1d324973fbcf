/- The text of slips, by both texts: what is written. Conditions: sizes. (Printed by gen_sle.py.) -/
import Derived.Test.YtehboinleolihaaGreatDoorCzSlD
import Derived.Test.YtehboinleolihaaGreatDoorCzJ11
import Derived.Test.YtehboinleolihaaGreatDoorCzTxE
set_option linter.unusedSimpArgs false
set_option linter.unusedVariables false
namespace Go.Proofs.YtehboinleolihaaGreatDoor
open Go Go.RowKit
end Go.Proofs.YtehboinleolihaaGreatDoor
