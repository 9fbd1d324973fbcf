/- Who hides whom, by the document's text: the walks. Conditions: people, stage and stands are right. -/
import Derived.Test.YtakfanmoepiagaaGreatDoorSmJ24
import Derived.Test.YtakfanmoepiagaaGreatDoorSmStR
set_option linter.unusedSimpArgs false
set_option linter.unusedVariables false
namespace Go.Proofs.YtakfanmoepiagaaGreatDoor
open Go Go.RowKit

end Go.Proofs.YtakfanmoepiagaaGreatDoor
