/- Lists of stands that are equal; a name found among them. Conditions: as each theorem says. Names among stands and among names. Conditions: as each theorem says. -/
import Derived.Test.YtfbegdcmnfkhgaaGreatDoorLxJ30
import Derived.Test.YtfbegdcmnfkhgaaGreatDoorLxJ37
import Derived.Laws.StructEq
import Derived.Shelf.SlicesQ.IndexFunc
set_option linter.unusedSimpArgs false
set_option linter.unusedVariables false
namespace Go.Proofs.YtfbegdcmnfkhgaaGreatDoor
open Go Go.RowKit

end Go.Proofs.YtfbegdcmnfkhgaaGreatDoor

namespace Go.Proofs.YtfbegdcmnfkhgaaGreatDoor
open Go Go.RowKit

end Go.Proofs.YtfbegdcmnfkhgaaGreatDoor
