/- How many of each section stand in a row: the program's walk. Conditions: sizes. -/
import Derived.Test.YtfcoeikekbjgpaaGreatDoorSxJ42
set_option linter.unusedSimpArgs false
set_option linter.unusedVariables false
namespace Go.Proofs.YtfcoeikekbjgpaaGreatDoor
open Go Go.RowKit Go.Sort

end Go.Proofs.YtfcoeikekbjgpaaGreatDoor
