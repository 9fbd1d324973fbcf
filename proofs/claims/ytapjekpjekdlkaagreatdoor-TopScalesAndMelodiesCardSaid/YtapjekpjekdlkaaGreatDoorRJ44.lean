/- Sorting: a stable sort by less is the sort by more; the orders of strings and numbers. Plain. Conditions: as each theorem says. A row of elements of several cells, behind a sort; comparing in a region that draws. Conditions: as each theorem says. -/
import Derived.Test.YtapjekpjekdlkaaGreatDoorRWayM
import Derived.Test.YtapjekpjekdlkaaGreatDoorRJ10
import Derived.Sort.LotA
import Derived.Test.YtapjekpjekdlkaaGreatDoorRFactsB
import Derived.Test.YtapjekpjekdlkaaGreatDoorRJ6
import Derived.Sort.Grow
import Derived.Shelf.SlSortCmp.WholeK
set_option linter.unusedSimpArgs false
set_option linter.unusedVariables false
namespace Go.Proofs.YtapjekpjekdlkaaGreatDoor
open Go Go.RowKit Go.Sort

section
variable {α : Type} [Inhabited α] {lt lt2 : α → α → Bool}
variable {R : α → α → Prop} (hR : ∀ x y, R x y → lt y x = lt2 y x)
include hR
end

end Go.Proofs.YtapjekpjekdlkaaGreatDoor

namespace Go.Proofs.YtapjekpjekdlkaaGreatDoor
open Go Go.RowKit Go.Sort

/-- Nothing but draws. -/
def Drw (w w' : World) : Prop := ∃ q, w' = w.drewN q
theorem Drw.refl (w : World) : Drw w w := ⟨0, rfl⟩
theorem Drw.trans {a b c : World} (h : Drw a b) (k : Drw b c) : Drw a c := by
  obtain ⟨q, rfl⟩ := h
  obtain ⟨r, rfl⟩ := k
  exact ⟨q + r, by simp [World.drewN, Nat.add_assoc]⟩
end Go.Proofs.YtapjekpjekdlkaaGreatDoor
