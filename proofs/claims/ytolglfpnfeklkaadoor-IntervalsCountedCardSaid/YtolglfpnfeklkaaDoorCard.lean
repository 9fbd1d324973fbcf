/- The tied card of the law of intervals. Conditions: none. -/
import Derived.Test.YtolglfpnfeklkaaDoorRow
import Derived.Test.YtolglfpnfeklkaaDoorCards
import Derived.Test.YtolglfpnfeklkaaDoorTie
import Derived.SevenTiedAt
namespace Go.Proofs.YtolglfpnfeklkaaDoor
open Go

theorem card_holds : Rows.IntervalsCountedCardSaid :=
  Claim7.holds_tied_plain_at .later [] [.data, .data, .data] true (true, "ca87a55def0d8123f0007a9618bc57a34c5723323e9649e186a2ab5e4dbe436a") false
    over (fun _ h => by cases h) (by kernel_rfl) (fun _ h => by cases h) intervalsCounted_row_tie rfl ⟨rfl, rfl⟩ (by kernel_rfl) rfl
    (fun f fn hf hfn => by
      obtain rfl : f = 3 := Option.some.inj ((show Tryd.prog.funcNamed "gleeclub/gleelaw1.IntervalsCounted" = some 3 by kernel_rfl).symm.trans hf) |>.symm
      obtain rfl : fn = Tryd.f3 := (Option.some.inj (Tryd.func3.symm.trans hfn)).symm
      exact ⟨by kernel_rfl, fun j t ht => by
        rw [Tryd.params3] at ht
        have h3 : t = 22 := by
          rcases j with _ | j
          · simpa using ht.symm
          · simp at ht
        subst h3
        exact (show Tryd.prog.wantsStandIn 22 = false by kernel_rfl)⟩)
    (by kernel_rfl)
end Go.Proofs.YtolglfpnfeklkaaDoor
