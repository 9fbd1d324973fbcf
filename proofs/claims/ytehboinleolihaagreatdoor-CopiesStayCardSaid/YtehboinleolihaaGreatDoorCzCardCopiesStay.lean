/- The tied card of a law. Conditions: none. -/
import Derived.Test.YtehboinleolihaaGreatDoorCzRowCopiesStay
import Derived.Test.YtehboinleolihaaGreatDoorCards
import Derived.Test.YtehboinleolihaaGreatDoorTie
import Derived.SevenTiedAt
set_option linter.unusedSimpArgs false
set_option linter.unusedVariables false
namespace Go.Proofs.YtehboinleolihaaGreatDoor
open Go
theorem card_holds : Rows.CopiesStayCardSaid :=
 Claim7.holds_tied_plain_at .later [] [.data, .data, .data, .data, .sentinel, .sentinel, .pinned] true (true, "838d62fef9b1772a211a8387dd9bb98dbc5a00874f82dbf0a8e97a40eb409d82") true
  over (fun _ h => by cases h) (by as_aux_lemma => kernel_rfl) (fun _ h => by cases h) copiesStay_row_tie rfl ⟨rfl, rfl⟩ (by as_aux_lemma => kernel_rfl) rfl
  (fun f fn hf hfn => by
    obtain rfl : f = 7 := Option.some.inj ((show Tryz.prog.funcNamed "gleeclub/gleekeep1.CopiesStay" = some 7 from by as_aux_lemma => kernel_rfl).symm.trans hf) |>.symm
    obtain rfl : fn = Tryz.f7 := (Option.some.inj (Tryz.func7.symm.trans hfn)).symm
    exact ⟨by as_aux_lemma => kernel_rfl, fun j t ht => by
     rw [Tryz.params7] at ht
     have h3 : t = 22 := by
      rcases j with _ | j
      ·simpa using ht.symm
      ·simp at ht
     subst h3
     exact (show Tryz.prog.wantsStandIn 22 = false from by as_aux_lemma => kernel_rfl)⟩)
  (by as_aux_lemma => kernel_rfl)
end Go.Proofs.YtehboinleolihaaGreatDoor
