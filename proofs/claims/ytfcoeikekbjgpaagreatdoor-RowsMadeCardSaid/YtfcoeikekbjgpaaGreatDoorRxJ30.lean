/- Stands the other way round: the program's walk. Conditions: people, a stage and stands are right. The solver's memory while it tries. Conditions: as each theorem says. The solver's memory: a place taken or left, those who stand cut, the best so far kept. Conditions: as each theorem says. -/
import Derived.Test.YtfcoeikekbjgpaaGreatDoorRxJ22
import Derived.Test.YtfcoeikekbjgpaaGreatDoorRxJ26
import Derived.Test.YtfcoeikekbjgpaaGreatDoorRxStZ
import Derived.Shelf.SlicesE.Clone
import Derived.Test.YtfcoeikekbjgpaaGreatDoorRxJ28
set_option linter.unusedSimpArgs false
set_option linter.unusedVariables false
namespace Go.Proofs.YtfcoeikekbjgpaaGreatDoor
open Go Go.RowKit Go.Sort

end Go.Proofs.YtfcoeikekbjgpaaGreatDoor

namespace Go.Proofs.YtfcoeikekbjgpaaGreatDoor
open Go Go.RowKit

section
variable {w0 w : World} {v gk ck : Nat} {pp : Option Addr} {pc : Nat} {P : List PersonV} {wp : Option Addr} {wcap : Nat} {wide : List Int} {hp : Option Addr} {hc : Nat} {high : List Int} {plp : Option Addr} {plc : Nat} {all : List StandV} {K : List Bool} {np : Option Addr} {nc : Nat} {T : List StandV} {bp : Option Addr} {bc : Nat} {fw : Int} {bst : List StandV}
end
end Go.Proofs.YtfcoeikekbjgpaaGreatDoor

namespace Go.Proofs.YtfcoeikekbjgpaaGreatDoor
open Go Go.RowKit

section
variable {w0 w : World} {v gk ck : Nat} {pp : Option Addr} {pc : Nat} {P : List PersonV} {wp : Option Addr} {wcap : Nat} {wide : List Int} {hp : Option Addr} {hc : Nat} {high : List Int} {plp : Option Addr} {plc : Nat} {all : List StandV} {K : List Bool} {np : Option Addr} {nc : Nat} {T : List StandV} {bp : Option Addr} {bc : Nat} {fw : Int} {bst : List StandV}
end

end Go.Proofs.YtfcoeikekbjgpaaGreatDoor
