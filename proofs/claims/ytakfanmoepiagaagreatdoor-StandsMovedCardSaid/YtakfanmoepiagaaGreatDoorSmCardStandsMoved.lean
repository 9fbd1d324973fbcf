/- The tied card of a law. Conditions: none. -/
import Derived.Test.YtakfanmoepiagaaGreatDoorSmRowStandsMoved
import Derived.Test.YtakfanmoepiagaaGreatDoorCards
import Derived.Test.YtakfanmoepiagaaGreatDoorTie
import Derived.SevenTiedAt
set_option linter.unusedSimpArgs false
set_option linter.unusedVariables false
namespace Go.Proofs.YtakfanmoepiagaaGreatDoor
open Go

theorem card_holds : Rows.StandsMovedCardSaid :=
  Claim7.holds_tied_plain_at .later [] [.data, .data, .data, .data, .pinned] true (true, "ebc34f6683d30713ae2d4f71239276e5cf58fd97a3fceda6550f38d2391bc6b0") false
    over (fun _ h => by cases h) (by kernel_rfl) (fun _ h => by cases h) standsMoved_row_tie rfl ⟨rfl, rfl⟩ (by kernel_rfl) rfl
    (fun f fn hf hfn => by
      obtain rfl : f = 5 := Option.some.inj ((show Tryz.prog.funcNamed "gleeclub/gleelaw1.StandsMoved" = some 5 by kernel_rfl).symm.trans hf) |>.symm
      obtain rfl : fn = Tryz.f5 := (Option.some.inj (Tryz.func5.symm.trans hfn)).symm
      exact ⟨by kernel_rfl, fun j t ht => by
        rw [Tryz.params5] at ht
        have h3 : t = 22 := by
          rcases j with _ | j
          · simpa using ht.symm
          · simp at ht
        subst h3
        exact (show Tryz.prog.wantsStandIn 22 = false by kernel_rfl)⟩)
    (by kernel_rfl)
end Go.Proofs.YtakfanmoepiagaaGreatDoor
