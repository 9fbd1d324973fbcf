/- The tied card of a law. Conditions: none. -/
import Derived.Test.YtebhjmknlhmmdaaDoorRowNotesNamed
import Derived.Test.YtebhjmknlhmmdaaDoorCards
import Derived.Test.YtebhjmknlhmmdaaDoorTie
import Derived.SevenTiedAt
namespace Go.Proofs.YtebhjmknlhmmdaaDoor
open Go

theorem card_holds : Rows.NotesNamedCardSaid :=
  Claim7.holds_tied_plain_at .later [] [.data, .data, .data, .data, .sentinel, .sentinel, .listed, .data, .pinned] true (true, "3e082fcdad1bd45767a797af92a6f4fa806661e3b1f8857d40751a4b4fcc5783") true
    over (fun _ h => by cases h) (by kernel_rfl) (fun _ h => by cases h) notesNamed_row_tie rfl ⟨rfl, rfl⟩ (by kernel_rfl) rfl
    (fun f fn hf hfn => by
      obtain rfl : f = 4 := Option.some.inj ((show Tryd.prog.funcNamed "gleeclub/gleelaw1.NotesNamed" = some 4 by kernel_rfl).symm.trans hf) |>.symm
      obtain rfl : fn = Tryd.f4 := (Option.some.inj (Tryd.func4.symm.trans hfn)).symm
      exact ⟨by kernel_rfl, fun j t ht => by
        rw [Tryd.params4] at ht
        have h3 : t = 22 := by
          rcases j with _ | j
          · simpa using ht.symm
          · simp at ht
        subst h3
        exact (show Tryd.prog.wantsStandIn 22 = false by kernel_rfl)⟩)
    (by kernel_rfl)
end Go.Proofs.YtebhjmknlhmmdaaDoor
