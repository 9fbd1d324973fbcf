/- Comparing intervals, by both texts. Conditions: as each theorem says. -/
import Derived.Test.YtddlhjbbjefdkaaGreatDoorTuTuneH
import Derived.Deep.DeepCutAuto
set_option linter.unusedSimpArgs false
set_option linter.unusedVariables false
namespace Go.Proofs.YtddlhjbbjefdkaaGreatDoor
open Go Go.RowKit

end Go.Proofs.YtddlhjbbjefdkaaGreatDoor
