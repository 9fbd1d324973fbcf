/- The closed facts of a row, each by itself (all at once they want more memory than the kernel has). Conditions: none. Texts of lines and words: cut at one byte, joined again. Plain mathematics. Conditions: as each theorem says. Decimal numbers: what is written is read as it was; what is read is written so. Plain mathematics. Conditions: as each theorem says. -/
import Derived.Test.YtkjhbofbcmelgaaGreatDoorRows
import Derived.JoinedOf
import Derived.Lib.SplitLaws
import Derived.Lib.Join
import Derived.Lib.Atoi
import Derived.Lib.ItoaMem
set_option linter.unusedSimpArgs false
set_option linter.unusedVariables false
namespace Go.Proofs.YtkjhbofbcmelgaaGreatDoor
open Go
set_option maxHeartbeats 6400000 in
theorem closedFact : joinedFacts Tryz.prog 3 Tryz.f3 Rows.copiesFollowedSpec Rows.copiesFollowedRow = true := by
 unfold joinedFacts
 simp only [Bool.and_eq_true]
 repeat' apply And.intro
 all_goals as_aux_lemma => kernel_rfl
end Go.Proofs.YtkjhbofbcmelgaaGreatDoor
namespace Go.Proofs.YtkjhbofbcmelgaaGreatDoor
open Go Go.Lib
end Go.Proofs.YtkjhbofbcmelgaaGreatDoor
namespace Go.Proofs.YtkjhbofbcmelgaaGreatDoor
open Go Go.Lib
end Go.Proofs.YtkjhbofbcmelgaaGreatDoor
