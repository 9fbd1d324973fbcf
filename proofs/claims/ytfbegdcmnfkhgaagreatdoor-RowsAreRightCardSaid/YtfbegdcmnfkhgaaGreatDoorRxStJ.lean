/- How high somebody stands; who hides whom. Conditions: the stands are on the stage, those who stand are people. -/
import Derived.Test.YtfbegdcmnfkhgaaGreatDoorRxStI
set_option linter.unusedSimpArgs false
set_option linter.unusedVariables false
namespace Go.Proofs.YtfbegdcmnfkhgaaGreatDoor
open Go Go.RowKit

def HighOk (high : List Int) : Prop := ∀ v ∈ high, 0 ≤ v ∧ v ≤ 1000000
/-- All who stand are people. -/
def AllPeople (P : List PersonV) (S : List StandV) : Prop := ∀ x ∈ S, ∃ (k : Nat) (q : PersonV), P[k]? = some q ∧ q.name = x.name
end Go.Proofs.YtfbegdcmnfkhgaaGreatDoor
