/- The tied card of a law. Conditions: none. -/
import Derived.Test.YtkfdolnnkbhlhaaDoorRowScalesTurnAround
import Derived.Test.YtkfdolnnkbhlhaaDoorCards
import Derived.Test.YtkfdolnnkbhlhaaDoorTie
import Derived.SevenTiedAt
namespace Go.Proofs.YtkfdolnnkbhlhaaDoor
open Go

theorem card_holds : Rows.ScalesTurnAroundCardSaid :=
  Claim7.holds_tied_plain_at .later [] [.data, .data, .data, .data, .pinned] true (true, "2aba348b7f167de2315b2346792e4e6210851a6c36bb042c3c821e121adf5601") false
    over (fun _ h => by cases h) (by kernel_rfl) (fun _ h => by cases h) scalesTurnAround_row_tie rfl ⟨rfl, rfl⟩ (by kernel_rfl) rfl
    (fun f fn hf hfn => by
      obtain rfl : f = 3 := Option.some.inj ((show Tryd.prog.funcNamed "gleeclub/gleekeep1.ScalesTurnAround" = some 3 by kernel_rfl).symm.trans hf) |>.symm
      obtain rfl : fn = Tryd.f3 := (Option.some.inj (Tryd.func3.symm.trans hfn)).symm
      exact ⟨by kernel_rfl, fun j t ht => by
        rw [Tryd.params3] at ht
        have h3 : t = 22 := by
          rcases j with _ | j
          · simpa using ht.symm
          · simp at ht
        subst h3
        exact (show Tryd.prog.wantsStandIn 22 = false by kernel_rfl)⟩)
    (by kernel_rfl)
end Go.Proofs.YtkfdolnnkbhlhaaDoor
