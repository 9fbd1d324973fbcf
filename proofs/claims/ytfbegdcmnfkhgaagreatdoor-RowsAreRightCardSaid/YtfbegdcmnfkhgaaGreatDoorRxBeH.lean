/- All that can stand are tried: the solver's walk. Conditions: at most four people; the places are different ones, on the stage. -/
import Derived.Test.YtfbegdcmnfkhgaaGreatDoorRxJ32
set_option linter.unusedSimpArgs false
set_option linter.unusedVariables false
namespace Go.Proofs.YtfbegdcmnfkhgaaGreatDoor
open Go Go.RowKit

section
variable {w0 : World} {v gk ck : Nat} {pp : Option Addr} {pc : Nat} {P : List PersonV} {wp : Option Addr} {wcap : Nat} {wide : List Int} {hp : Option Addr} {hc : Nat} {high : List Int} {plp : Option Addr} {plc : Nat} {all : List StandV}
end
end Go.Proofs.YtfbegdcmnfkhgaaGreatDoor
