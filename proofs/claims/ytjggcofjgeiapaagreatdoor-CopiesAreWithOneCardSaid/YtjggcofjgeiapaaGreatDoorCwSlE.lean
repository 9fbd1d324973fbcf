/- The text of slips, by both texts: what is written. Conditions: sizes. (Printed by gen_sle.py.) -/
import Derived.Test.YtjggcofjgeiapaaGreatDoorCwSlD
import Derived.Test.YtjggcofjgeiapaaGreatDoorCwJ13
import Derived.Test.YtjggcofjgeiapaaGreatDoorCwTxE
import Derived.Test.YtjggcofjgeiapaaGreatDoorCwJ14
set_option linter.unusedSimpArgs false
set_option linter.unusedVariables false
namespace Go.Proofs.YtjggcofjgeiapaaGreatDoor
open Go Go.RowKit

end Go.Proofs.YtjggcofjgeiapaaGreatDoor