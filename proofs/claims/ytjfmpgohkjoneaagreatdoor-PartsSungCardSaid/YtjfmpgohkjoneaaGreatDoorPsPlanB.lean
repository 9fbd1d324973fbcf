/- Behind a loud operation of a region: more may be known of the world, and quiet operations may follow. Conditions: none. -/
import Derived.Test.YtjfmpgohkjoneaaGreatDoorPsPlan
set_option linter.unusedSimpArgs false
set_option linter.unusedVariables false
namespace Go.Proofs.YtjfmpgohkjoneaaGreatDoor
open Go Go.RowKit

section
variable {P : Program} {ops : Array Oper} {md : Region.Mode} {Q : Exit → Act → World → Prop} {H H' : World → Prop} {E : World → World → Prop}

end
end Go.Proofs.YtjfmpgohkjoneaaGreatDoor
