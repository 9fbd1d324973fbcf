/- How many copies of each title are in: the walk of Stock. Conditions: sizes; at most 19 slips; the table of the powers of ten stands. -/
import Derived.Test.YtkjhbofbcmelgaaGreatDoorEzJ27
set_option linter.unusedSimpArgs false
set_option linter.unusedVariables false
namespace Go.Proofs.YtkjhbofbcmelgaaGreatDoor
open Go Go.RowKit Go.Maps
end Go.Proofs.YtkjhbofbcmelgaaGreatDoor
