/- Who is hidden, listed. Conditions: people, stage and stands are right (what CheckStands answers is a hypothesis here). -/
import Derived.Test.YtfbegdcmnfkhgaaGreatDoorRxStJ
set_option linter.unusedSimpArgs false
set_option linter.unusedVariables false
namespace Go.Proofs.YtfbegdcmnfkhgaaGreatDoor
open Go Go.RowKit

structure StandsOk (P : List PersonV) (wide high : List Int) (S : List StandV) : Prop where
  po : PeopleOk P
  wo : WideOk wide
  ho : HighOk high
  wh : high.length = wide.length
  len : S.length ≤ 200
  on : ∀ x ∈ S, OnStage wide x
  all : AllPeople P S

def hidC (x : ByteArray × ByteArray) : List Value := [.string x.1, .string x.2]
end Go.Proofs.YtfbegdcmnfkhgaaGreatDoor
