/- The text of slips, by both texts: what is written. Conditions: sizes. (Printed by gen_sle.py.) -/
import Derived.Test.YtjggcofjgeiapaaGreatDoorSoSlD
import Derived.Test.YtjggcofjgeiapaaGreatDoorSoJ15
import Derived.Test.YtjggcofjgeiapaaGreatDoorSoTxE
import Derived.Test.YtjggcofjgeiapaaGreatDoorSoJ16
set_option linter.unusedSimpArgs false
set_option linter.unusedVariables false
namespace Go.Proofs.YtjggcofjgeiapaaGreatDoor
open Go Go.RowKit

end Go.Proofs.YtjggcofjgeiapaaGreatDoor