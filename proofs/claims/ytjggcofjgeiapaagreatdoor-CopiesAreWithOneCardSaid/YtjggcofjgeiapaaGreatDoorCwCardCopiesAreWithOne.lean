/- The tied card of a law. Conditions: none. -/
import Derived.Test.YtjggcofjgeiapaaGreatDoorCwRowCopiesAreWithOne
import Derived.Test.YtjggcofjgeiapaaGreatDoorCards
import Derived.Test.YtjggcofjgeiapaaGreatDoorTie
import Derived.SevenTiedAt
set_option linter.unusedSimpArgs false
set_option linter.unusedVariables false
namespace Go.Proofs.YtjggcofjgeiapaaGreatDoor
open Go

theorem card_holds : Rows.CopiesAreWithOneCardSaid :=
  Claim7.holds_tied_plain_at .later [] [.data, .data, .data, .data, .pinned] true (true, "f08655a3034f7212ca6f8fad6212cf38e88d3dcf4df15b9d75883fba9740f6df") true
    over (fun _ h => by cases h) (by kernel_rfl) (fun _ h => by cases h) copiesAreWithOne_row_tie rfl ⟨rfl, rfl⟩ (by kernel_rfl) rfl
    (fun f fn hf hfn => by
      obtain rfl : f = 3 := Option.some.inj ((show Tryz.prog.funcNamed "gleeclub/gleekeep1.CopiesAreWithOne" = some 3 by kernel_rfl).symm.trans hf) |>.symm
      obtain rfl : fn = Tryz.f3 := (Option.some.inj (Tryz.func3.symm.trans hfn)).symm
      exact ⟨by kernel_rfl, fun j t ht => by
        rw [Tryz.params3] at ht
        have h3 : t = 22 := by
          rcases j with _ | j
          · simpa using ht.symm
          · simp at ht
        subst h3
        exact (show Tryz.prog.wantsStandIn 22 = false by kernel_rfl)⟩)
    (by kernel_rfl)
end Go.Proofs.YtjggcofjgeiapaaGreatDoor
