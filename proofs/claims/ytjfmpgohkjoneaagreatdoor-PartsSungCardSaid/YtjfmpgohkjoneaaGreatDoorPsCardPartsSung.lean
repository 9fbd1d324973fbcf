/- The tied card of a law. Conditions: none. -/
import Derived.Test.YtjfmpgohkjoneaaGreatDoorPsRowPartsSung
import Derived.Test.YtjfmpgohkjoneaaGreatDoorCards
import Derived.Test.YtjfmpgohkjoneaaGreatDoorTie
import Derived.SevenTiedAt
set_option linter.unusedSimpArgs false
set_option linter.unusedVariables false
namespace Go.Proofs.YtjfmpgohkjoneaaGreatDoor
open Go

theorem card_holds : Rows.PartsSungCardSaid :=
  Claim7.holds_tied_plain_at .later [] [.data, .pinned] true (true, "dce4e57b3f71fa9e799f0e2bf8bdf278509f4d0d2633b47ff51c4f9bfdfea01e") false
    over (fun _ h => by cases h) (by kernel_rfl) (fun _ h => by cases h) partsSung_row_tie rfl ⟨rfl, rfl⟩ (by kernel_rfl) rfl
    (fun f fn hf hfn => by
      obtain rfl : f = 6 := Option.some.inj ((show Tryz.prog.funcNamed "gleeclub/gleelaw1.PartsSung" = some 6 by kernel_rfl).symm.trans hf) |>.symm
      obtain rfl : fn = Tryz.f6 := (Option.some.inj (Tryz.func6.symm.trans hfn)).symm
      exact ⟨by kernel_rfl, fun j t ht => by
        rw [Tryz.params6] at ht
        have h3 : t = 22 := by
          rcases j with _ | j
          · simpa using ht.symm
          · simp at ht
        subst h3
        exact (show Tryz.prog.wantsStandIn 22 = false by kernel_rfl)⟩)
    (by kernel_rfl)
end Go.Proofs.YtjfmpgohkjoneaaGreatDoor
