/- Who had a copy: the walk of Way when all is right. Conditions: sizes; at most 19 slips. -/
import Derived.Test.YtehboinleolihaaGreatDoorRzLcA
set_option linter.unusedSimpArgs false
set_option linter.unusedVariables false
namespace Go.Proofs.YtehboinleolihaaGreatDoor
open Go Go.RowKit Go.Maps Go.Sort

end Go.Proofs.YtehboinleolihaaGreatDoor
