/- The quotient of an interval, by the reference's text. Conditions: the interval is right. -/
import Derived.Test.YtddlhjbbjefdkaaGreatDoorHeTuneF
set_option linter.unusedSimpArgs false
set_option linter.unusedVariables false
namespace Go.Proofs.YtddlhjbbjefdkaaGreatDoor
open Go Go.RowKit

end Go.Proofs.YtddlhjbbjefdkaaGreatDoor
