/- The tied card of a law. Conditions: none. -/
import Derived.Test.YtlmbpgjdepmlcaaDoorRowBusesFilled
import Derived.Test.YtlmbpgjdepmlcaaDoorCards
import Derived.Test.YtlmbpgjdepmlcaaDoorTie
import Derived.SevenTiedAt
namespace Go.Proofs.YtlmbpgjdepmlcaaDoor
open Go

theorem card_holds : Rows.BusesFilledCardSaid :=
  Claim7.holds_tied_plain_at .later [] [.data, .data, .data, .data, .pinned] true (true, "f5a4f0b606f88db4daf2a8d693cf31b8d3b3169ef6b3b6671e01d11fe23573f6") false
    over (fun _ h => by cases h) (by kernel_rfl) (fun _ h => by cases h) busesFilled_row_tie rfl ⟨rfl, rfl⟩ (by kernel_rfl) rfl
    (fun f fn hf hfn => by
      obtain rfl : f = 5 := Option.some.inj ((show Tryd.prog.funcNamed "gleeclub/gleelaw1.BusesFilled" = some 5 by kernel_rfl).symm.trans hf) |>.symm
      obtain rfl : fn = Tryd.f5 := (Option.some.inj (Tryd.func5.symm.trans hfn)).symm
      exact ⟨by kernel_rfl, fun j t ht => by
        rw [Tryd.params5] at ht
        have h3 : t = 22 := by
          rcases j with _ | j
          · simpa using ht.symm
          · simp at ht
        subst h3
        exact (show Tryd.prog.wantsStandIn 22 = false by kernel_rfl)⟩)
    (by kernel_rfl)
end Go.Proofs.YtlmbpgjdepmlcaaDoor
