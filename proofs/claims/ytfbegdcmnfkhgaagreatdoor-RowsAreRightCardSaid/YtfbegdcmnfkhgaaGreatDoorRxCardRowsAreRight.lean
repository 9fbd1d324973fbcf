/- The tied card of a law. Conditions: none. -/
import Derived.Test.YtfbegdcmnfkhgaaGreatDoorRxRowRowsAreRight
import Derived.Test.YtfbegdcmnfkhgaaGreatDoorCards
import Derived.Test.YtfbegdcmnfkhgaaGreatDoorTie
import Derived.SevenTiedAt
set_option linter.unusedSimpArgs false
set_option linter.unusedVariables false
namespace Go.Proofs.YtfbegdcmnfkhgaaGreatDoor
open Go

theorem card_holds : Rows.RowsAreRightCardSaid :=
  Claim7.holds_tied_plain_at .later [] [.data, .data, .data, .data, .pinned] true (true, "e9f2b50ce7b6001f2f956999ba0162eae723fbbc2ab97f66552ff27c17afef62") false
    over (fun _ h => by cases h) (by kernel_rfl) (fun _ h => by cases h) rowsAreRight_row_tie rfl ⟨rfl, rfl⟩ (by kernel_rfl) rfl
    (fun f fn hf hfn => by
      obtain rfl : f = 5 := Option.some.inj ((show Tryz.prog.funcNamed "gleeclub/gleekeep1.RowsAreRight" = some 5 by kernel_rfl).symm.trans hf) |>.symm
      obtain rfl : fn = Tryz.f5 := (Option.some.inj (Tryz.func5.symm.trans hfn)).symm
      exact ⟨by kernel_rfl, fun j t ht => by
        rw [Tryz.params5] at ht
        have h3 : t = 22 := by
          rcases j with _ | j
          · simpa using ht.symm
          · simp at ht
        subst h3
        exact (show Tryz.prog.wantsStandIn 22 = false by kernel_rfl)⟩)
    (by kernel_rfl)
end Go.Proofs.YtfbegdcmnfkhgaaGreatDoor
