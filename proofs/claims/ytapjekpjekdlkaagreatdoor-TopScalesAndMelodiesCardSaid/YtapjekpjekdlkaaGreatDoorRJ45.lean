/- Intervals sorted by height, by both texts. Conditions: all are right, and each there once. All intervals that the last note can have, by tune's text. Conditions: steps and notes lie in memory, no more than 40 steps. -/
import Derived.Test.YtapjekpjekdlkaaGreatDoorRJ21
import Derived.Test.YtapjekpjekdlkaaGreatDoorRJ44
import Derived.Test.YtapjekpjekdlkaaGreatDoorRTuneI
import Derived.Test.YtapjekpjekdlkaaGreatDoorRJ33
import Derived.Shelf.SlSortCmp.NoneTotal
import Derived.Test.YtapjekpjekdlkaaGreatDoorRMeL
set_option linter.unusedSimpArgs false
set_option linter.unusedVariables false
namespace Go.Proofs.YtapjekpjekdlkaaGreatDoor
open Go Go.RowKit Go.Sort

/-- A right interval. -/
structure RI where
  val : I4
  property : rightB val = true
instance : Inhabited RI := ⟨⟨zeroI, right_zero⟩⟩
end Go.Proofs.YtapjekpjekdlkaaGreatDoor

namespace Go.Proofs.YtapjekpjekdlkaaGreatDoor
open Go Go.RowKit Go.Maps

theorem ivInfo : (Tryz.prog.info? 27).map (fun i => (i.zero, i.size, i.bytes)) = some (some (.agg #[.int .i64 0, .int .i64 0, .int .i64 0, .int .i64 0]), 4, 32) := by kernel_rfl
end Go.Proofs.YtapjekpjekdlkaaGreatDoor
