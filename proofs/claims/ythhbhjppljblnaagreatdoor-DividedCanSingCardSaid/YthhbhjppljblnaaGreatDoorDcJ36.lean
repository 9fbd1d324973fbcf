/- Sets of parts as numbers: their members, in order; how many singers they lack, by the program. Conditions: sizes. By how many fewer singers can sing one of some parts than they need, by the program. Conditions: the choir lies in memory. -/
import Derived.Test.YthhbhjppljblnaaGreatDoorDcGiF
set_option linter.unusedSimpArgs false
set_option linter.unusedVariables false
namespace Go.Proofs.YthhbhjppljblnaaGreatDoor
open Go Go.RowKit

end Go.Proofs.YthhbhjppljblnaaGreatDoor

namespace Go.Proofs.YthhbhjppljblnaaGreatDoor
open Go Go.RowKit

end Go.Proofs.YthhbhjppljblnaaGreatDoor
