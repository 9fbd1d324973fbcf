/- Maps of bools that the call made. Conditions: none. -/
import Derived.Test.YtjfmpgohkjoneaaGreatDoorPsKit
import Derived.Maps.OwnOps
set_option linter.unusedSimpArgs false
set_option linter.unusedVariables false
namespace Go.Proofs.YtjfmpgohkjoneaaGreatDoor
open Go Go.RowKit Go.Maps

theorem Ext.grown {a b c : World} (h : Ext a b) {row : Option Nat} (hg : b.grownBy c row) (hr : ∀ k, row = some k → a.heap.size ≤ k) : Ext a c := Below.grown h hg h.size hr
end Go.Proofs.YtjfmpgohkjoneaaGreatDoor
