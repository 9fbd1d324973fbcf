/- The tied card of a law. Conditions: none. -/
import Derived.Test.YtachmdaiecbenaaGreatDoorSbRowSlipsComeBack
import Derived.Test.YtachmdaiecbenaaGreatDoorCards
import Derived.Test.YtachmdaiecbenaaGreatDoorTie
import Derived.SevenTiedAt
set_option linter.unusedSimpArgs false
set_option linter.unusedVariables false
namespace Go.Proofs.YtachmdaiecbenaaGreatDoor
open Go

theorem card_holds : Rows.SlipsComeBackCardSaid :=
  Claim7.holds_tied_plain_at .later [] [.data, .data, .data, .data, .sentinel, .sentinel, .pinned] true (true, "b9d81ed81fc55025e84066ec9f30713fe9853a020eab167f36c1bc8eb5d068cf") true
    over (fun _ h => by cases h) (by kernel_rfl) (fun _ h => by cases h) slipsComeBack_row_tie rfl ⟨rfl, rfl⟩ (by kernel_rfl) rfl
    (fun f fn hf hfn => by
      obtain rfl : f = 3 := Option.some.inj ((show Tryz.prog.funcNamed "gleeclub/gleekeep1.SlipsComeBack" = some 3 by kernel_rfl).symm.trans hf) |>.symm
      obtain rfl : fn = Tryz.f3 := (Option.some.inj (Tryz.func3.symm.trans hfn)).symm
      exact ⟨by kernel_rfl, fun j t ht => by
        rw [Tryz.params3] at ht
        have h3 : t = 22 := by
          rcases j with _ | j
          · simpa using ht.symm
          · simp at ht
        subst h3
        exact (show Tryz.prog.wantsStandIn 22 = false by kernel_rfl)⟩)
    (by kernel_rfl)
end Go.Proofs.YtachmdaiecbenaaGreatDoor
