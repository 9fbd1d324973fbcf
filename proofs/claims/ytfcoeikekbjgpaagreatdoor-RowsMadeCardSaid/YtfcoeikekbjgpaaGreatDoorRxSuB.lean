/- What is wrong with stands: the document's walk. Conditions: sizes. -/
import Derived.Test.YtfcoeikekbjgpaaGreatDoorRxJ19
import Derived.Test.YtfcoeikekbjgpaaGreatDoorRxJ24
set_option linter.unusedSimpArgs false
set_option linter.unusedVariables false
namespace Go.Proofs.YtfcoeikekbjgpaaGreatDoor
open Go Go.RowKit

theorem strInfo : (Tryz.prog.info? 9).map (fun i => (i.zero, i.size, i.bytes)) = some (some (.string ⟨#[]⟩), 1, 16) := by kernel_rfl
end Go.Proofs.YtfcoeikekbjgpaaGreatDoor
