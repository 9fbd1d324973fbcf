/- Parts that are higher, by voice. Conditions: they are right. -/
import Derived.Test.YtdehmioobkneiaaGreatDoorTdJ6
import Derived.Test.YtdehmioobkneiaaGreatDoorTdJ2
import Derived.Test.YtdehmioobkneiaaGreatDoorTdJ8
import Derived.Shelf.SlicesE.Clone
import Derived.Ground.SlgnProg
import Derived.Deep.AppendLies
import Derived.Deep.DeepCutAuto
import Derived.Deep.Light
set_option linter.unusedSimpArgs false
set_option linter.unusedVariables false
namespace Go.Proofs.YtdehmioobkneiaaGreatDoor
open Go Go.RowKit
def PartV.up (x : PartV) (d : Int) : PartV := ⟨x.name, x.lo + d, x.hi + d, x.least, x.most⟩
theorem part_flat_len : ∀ (xs : List PartV), (xs.flatMap partC).length = xs.length * 5
  | [] => rfl
  | x :: l => by rw [List.flatMap_cons, List.length_append, part_flat_len l, partC_len, List.length_cons]; omega
end Go.Proofs.YtdehmioobkneiaaGreatDoor
