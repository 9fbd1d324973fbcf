/- Who is hidden behind somebody's coming: the solver's walk. Conditions: at most four stand. -/
import Derived.Test.YtfbegdcmnfkhgaaGreatDoorRxBeC
set_option linter.unusedSimpArgs false
set_option linter.unusedVariables false
namespace Go.Proofs.YtfbegdcmnfkhgaaGreatDoor
open Go Go.RowKit

section
variable (P : List PersonV) (wide high : List Int)
end

section
variable {v : Nat} {pp : Option Addr} {pc : Nat} {P : List PersonV} {wp : Option Addr} {wcap : Nat} {wide : List Int} {hp : Option Addr} {hc : Nat} {high : List Int} {np : Option Addr} {nc : Nat} {T : List StandV} {pls tks bs : Value} {fw : Int} {w : World}
end
end Go.Proofs.YtfbegdcmnfkhgaaGreatDoor
