/- The text of slips, by both texts: what is written. Conditions: sizes. (Printed by gen_sle.py.) -/
import Derived.Test.YtjggcofjgeiapaaGreatDoorCiSlD
import Derived.Test.YtjggcofjgeiapaaGreatDoorCiJ14
import Derived.Test.YtjggcofjgeiapaaGreatDoorCiTxE
import Derived.Test.YtjggcofjgeiapaaGreatDoorCiJ15
set_option linter.unusedSimpArgs false
set_option linter.unusedVariables false
namespace Go.Proofs.YtjggcofjgeiapaaGreatDoor
open Go Go.RowKit

end Go.Proofs.YtjggcofjgeiapaaGreatDoor