/- A text of slips is read, by copies. Conditions: sizes. Slips parted into two lists; two lists one behind the other. Conditions: sizes. -/
import Derived.Test.YtjggcofjgeiapaaGreatDoorCwSlH
import Derived.Test.YtjggcofjgeiapaaGreatDoorCwJ3
import Derived.Test.YtjggcofjgeiapaaGreatDoorCwJ4
import Derived.Test.YtjggcofjgeiapaaGreatDoorCwMgA
import Derived.Test.YtjggcofjgeiapaaGreatDoorCwJ16
import Derived.Lib.AppendZerosOnto
import Derived.Deep.DeepAppendWide
set_option linter.unusedSimpArgs false
set_option linter.unusedVariables false
namespace Go.Proofs.YtjggcofjgeiapaaGreatDoor
open Go Go.RowKit

theorem sliInfo : (Tryz.prog.info? 66).map (fun i => (i.zero, i.size, i.bytes)) = some (some (.agg #[.string ⟨#[]⟩, .int .i64 0, .int .i64 0, .int .i64 0, .string ⟨#[]⟩, .int .i64 0, .string ⟨#[]⟩]), 7, 80) := by kernel_rfl
end Go.Proofs.YtjggcofjgeiapaaGreatDoor

namespace Go.Proofs.YtjggcofjgeiapaaGreatDoor
open Go Go.RowKit Go.Lib

/-! ### parts -/
/-! ### one behind the other -/
end Go.Proofs.YtjggcofjgeiapaaGreatDoor
