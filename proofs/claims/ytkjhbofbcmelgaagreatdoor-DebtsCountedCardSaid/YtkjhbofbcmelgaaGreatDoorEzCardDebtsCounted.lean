/- The tied card of a law. Conditions: none. -/
import Derived.Test.YtkjhbofbcmelgaaGreatDoorEzRowDebtsCounted
import Derived.Test.YtkjhbofbcmelgaaGreatDoorCards
import Derived.Test.YtkjhbofbcmelgaaGreatDoorTie
import Derived.SevenTiedAt
set_option linter.unusedSimpArgs false
set_option linter.unusedVariables false
namespace Go.Proofs.YtkjhbofbcmelgaaGreatDoor
open Go
theorem card_holds : Rows.DebtsCountedCardSaid :=
 Claim7.holds_tied_plain_at .later [] [.data, .data, .data, .data, .pinned] true (true, "7ccbd2ce5948fbbf1a753d3ecd6506de7d72a49238fe3dade91e3499c4c43ba6") true
  over (fun _ h => by cases h) (by as_aux_lemma => kernel_rfl) (fun _ h => by cases h) debtsCounted_row_tie rfl ⟨rfl, rfl⟩ (by as_aux_lemma => kernel_rfl) rfl
  (fun f fn hf hfn => by
    obtain rfl : f = 4 := Option.some.inj ((show Tryz.prog.funcNamed "gleeclub/gleelaw1.DebtsCounted" = some 4 from by as_aux_lemma => kernel_rfl).symm.trans hf) |>.symm
    obtain rfl : fn = Tryz.f4 := (Option.some.inj (Tryz.func4.symm.trans hfn)).symm
    exact ⟨by as_aux_lemma => kernel_rfl, fun j t ht => by
     rw [Tryz.params4] at ht
     have h3 : t = 22 := by
      rcases j with _ | j
      ·simpa using ht.symm
      ·simp at ht
     subst h3
     exact (show Tryz.prog.wantsStandIn 22 = false from by as_aux_lemma => kernel_rfl)⟩)
  (by as_aux_lemma => kernel_rfl)
end Go.Proofs.YtkjhbofbcmelgaaGreatDoor
