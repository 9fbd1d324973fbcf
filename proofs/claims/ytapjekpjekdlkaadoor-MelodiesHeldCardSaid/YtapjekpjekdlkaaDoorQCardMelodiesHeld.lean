/- The tied card of a law. Conditions: none. -/
import Derived.Test.YtapjekpjekdlkaaDoorQRowMelodiesHeld
import Derived.Test.YtapjekpjekdlkaaDoorCards
import Derived.Test.YtapjekpjekdlkaaDoorTie
import Derived.SevenTiedAt
set_option linter.unusedSimpArgs false
set_option linter.unusedVariables false
namespace Go.Proofs.YtapjekpjekdlkaaDoor
open Go

theorem card_holds : Rows.MelodiesHeldCardSaid :=
  Claim7.holds_tied_plain_at .later [] [.data, .data, .data] true (true, "a45d93b6a3397ca291a4dfc48734811b948f9accdc4d71da925aa197e86f8860") false
    over (fun _ h => by cases h) (by kernel_rfl) (fun _ h => by cases h) melodiesHeld_row_tie rfl ⟨rfl, rfl⟩ (by kernel_rfl) rfl
    (fun f fn hf hfn => by
      obtain rfl : f = 3 := Option.some.inj ((show Tryd.prog.funcNamed "gleeclub/gleelaw1.MelodiesHeld" = some 3 by kernel_rfl).symm.trans hf) |>.symm
      obtain rfl : fn = Tryd.f3 := (Option.some.inj (Tryd.func3.symm.trans hfn)).symm
      exact ⟨by kernel_rfl, fun j t ht => by
        rw [Tryd.params3] at ht
        have h3 : t = 22 := by
          rcases j with _ | j
          · simpa using ht.symm
          · simp at ht
        subst h3
        exact (show Tryd.prog.wantsStandIn 22 = false by kernel_rfl)⟩)
    (by kernel_rfl)
end Go.Proofs.YtapjekpjekdlkaaDoor
