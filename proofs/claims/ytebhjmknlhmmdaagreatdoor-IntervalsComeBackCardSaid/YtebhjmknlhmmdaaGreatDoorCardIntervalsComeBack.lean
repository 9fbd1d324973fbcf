/- The tied card of a law. Conditions: none. -/
import Derived.Test.YtebhjmknlhmmdaaGreatDoorRowIntervalsComeBack
import Derived.Test.YtebhjmknlhmmdaaGreatDoorCards
import Derived.Test.YtebhjmknlhmmdaaGreatDoorTie
import Derived.SevenTiedAt
namespace Go.Proofs.YtebhjmknlhmmdaaGreatDoor
open Go

theorem card_holds : Rows.IntervalsComeBackCardSaid :=
  Claim7.holds_tied_plain_at .later [] [.data, .data, .data, .data, .sentinel, .sentinel, .pinned] true (true, "16ce281c662ed5d2d79a3c4c026af2a930d67ae3691d1f5837e126e9f7c00637") true
    over (fun _ h => by cases h) (by kernel_rfl) (fun _ h => by cases h) intervalsComeBack_row_tie rfl ⟨rfl, rfl⟩ (by kernel_rfl) rfl
    (fun f fn hf hfn => by
      obtain rfl : f = 3 := Option.some.inj ((show Tryz.prog.funcNamed "gleeclub/gleekeep1.IntervalsComeBack" = some 3 by kernel_rfl).symm.trans hf) |>.symm
      obtain rfl : fn = Tryz.f3 := (Option.some.inj (Tryz.func3.symm.trans hfn)).symm
      exact ⟨by kernel_rfl, fun j t ht => by
        rw [Tryz.params3] at ht
        have h3 : t = 22 := by
          rcases j with _ | j
          · simpa using ht.symm
          · simp at ht
        subst h3
        exact (show Tryz.prog.wantsStandIn 22 = false by kernel_rfl)⟩)
    (by kernel_rfl)
end Go.Proofs.YtebhjmknlhmmdaaGreatDoor
