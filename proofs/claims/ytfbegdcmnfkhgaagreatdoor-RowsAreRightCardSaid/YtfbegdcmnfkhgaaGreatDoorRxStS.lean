/- Who hides whom, by the document's text: the walks. Conditions: people, stage and stands are right. -/
import Derived.Test.YtfbegdcmnfkhgaaGreatDoorRxJ22
import Derived.Test.YtfbegdcmnfkhgaaGreatDoorRxStR
set_option linter.unusedSimpArgs false
set_option linter.unusedVariables false
namespace Go.Proofs.YtfbegdcmnfkhgaaGreatDoor
open Go Go.RowKit

end Go.Proofs.YtfbegdcmnfkhgaaGreatDoor
