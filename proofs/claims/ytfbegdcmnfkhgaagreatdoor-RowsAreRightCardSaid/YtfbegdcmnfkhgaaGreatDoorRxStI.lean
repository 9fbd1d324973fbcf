/- How high somebody stands; who hides whom. Conditions: the stands are on the stage, those who stand are people. -/
import Derived.Test.YtfbegdcmnfkhgaaGreatDoorRxStH
set_option linter.unusedSimpArgs false
set_option linter.unusedVariables false
namespace Go.Proofs.YtfbegdcmnfkhgaaGreatDoor
open Go Go.RowKit

end Go.Proofs.YtfbegdcmnfkhgaaGreatDoor
