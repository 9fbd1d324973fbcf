/- The tied card of a law. Conditions: none. -/
import Derived.Test.YtfmkmnnmckbljaaGreatDoorScRowStandsChecked
import Derived.Test.YtfmkmnnmckbljaaGreatDoorCards
import Derived.Test.YtfmkmnnmckbljaaGreatDoorTie
import Derived.SevenTiedAt
namespace Go.Proofs.YtfmkmnnmckbljaaGreatDoor
open Go

theorem card_holds : Rows.StandsCheckedCardSaid :=
  Claim7.holds_tied_plain_at .later [] [.data, .data, .data, .data, .pinned] true (true, "35dd1c5dce73d96949a1f08c10ae96362910e26d264e68a4660f2e5a49717d03") false
    over (fun _ h => by cases h) (by kernel_rfl) (fun _ h => by cases h) standsChecked_row_tie rfl ⟨rfl, rfl⟩ (by kernel_rfl) rfl
    (fun f fn hf hfn => by
      obtain rfl : f = 3 := Option.some.inj ((show Tryz.prog.funcNamed "gleeclub/gleelaw1.StandsChecked" = some 3 by kernel_rfl).symm.trans hf) |>.symm
      obtain rfl : fn = Tryz.f3 := (Option.some.inj (Tryz.func3.symm.trans hfn)).symm
      exact ⟨by kernel_rfl, fun j t ht => by
        rw [Tryz.params3] at ht
        have h3 : t = 22 := by
          rcases j with _ | j
          · simpa using ht.symm
          · simp at ht
        subst h3
        exact (show Tryz.prog.wantsStandIn 22 = false by kernel_rfl)⟩)
    (by kernel_rfl)
end Go.Proofs.YtfmkmnnmckbljaaGreatDoor
