/- Sorting: a stable sort by less is the sort by more; the orders of strings and numbers. Plain. Conditions: as each theorem says. -/
import Derived.Test.YtachmdaiecbenaaGreatDoorSbWayM
import Derived.Test.YtachmdaiecbenaaGreatDoorSbCmpA
import Derived.Sort.LotA
set_option linter.unusedSimpArgs false
set_option linter.unusedVariables false
namespace Go.Proofs.YtachmdaiecbenaaGreatDoor
open Go Go.RowKit Go.Sort

section
variable {α : Type} [Inhabited α] {lt lt2 : α → α → Bool}
variable {R : α → α → Prop} (hR : ∀ x y, R x y → lt y x = lt2 y x)
include hR
end

end Go.Proofs.YtachmdaiecbenaaGreatDoor
