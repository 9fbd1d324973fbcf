/- The tied card of a law. Conditions: none. -/
import Derived.Test.YtcdjkgfdhngmeaaGreatDoorSdRowSingersDivided
import Derived.Test.YtcdjkgfdhngmeaaGreatDoorCards
import Derived.Test.YtcdjkgfdhngmeaaGreatDoorTie
import Derived.SevenTiedAt
set_option linter.unusedSimpArgs false
set_option linter.unusedVariables false
namespace Go.Proofs.YtcdjkgfdhngmeaaGreatDoor
open Go

theorem card_holds : Rows.SingersDividedCardSaid :=
  Claim7.holds_tied_plain_at .later [] [.data, .pinned] true (true, "dea7dc5fabe77f0f6b25ba6242a38100c1c01ff3a7ec9130fb0ed118867660fd") false
    over (fun _ h => by cases h) (by kernel_rfl) (fun _ h => by cases h) singersDivided_row_tie rfl ⟨rfl, rfl⟩ (by kernel_rfl) rfl
    (fun f fn hf hfn => by
      obtain rfl : f = 3 := Option.some.inj ((show Tryz.prog.funcNamed "gleeclub/gleelaw1.SingersDivided" = some 3 by kernel_rfl).symm.trans hf) |>.symm
      obtain rfl : fn = Tryz.f3 := (Option.some.inj (Tryz.func3.symm.trans hfn)).symm
      exact ⟨by kernel_rfl, fun j t ht => by
        rw [Tryz.params3] at ht
        have h3 : t = 22 := by
          rcases j with _ | j
          · simpa using ht.symm
          · simp at ht
        subst h3
        exact (show Tryz.prog.wantsStandIn 22 = false by kernel_rfl)⟩)
    (by kernel_rfl)
end Go.Proofs.YtcdjkgfdhngmeaaGreatDoor
