/- Slips of two lists are merged: the walk. Conditions: sizes. -/
import Derived.Test.YtehboinleolihaaGreatDoorRzMgB
import Derived.Test.YtehboinleolihaaGreatDoorRzJ22
import Derived.Test.YtehboinleolihaaGreatDoorRzJ14
import Derived.Shelf.SlSortCmp.NoneTotal
set_option linter.unusedSimpArgs false
set_option linter.unusedVariables false
namespace Go.Proofs.YtehboinleolihaaGreatDoor
open Go Go.RowKit Go.Maps Go.Sort

/-! ### the sort -/
theorem ltS_iff (a b : SlipV) : ltOf sliO a b = true ↔ sliLt a b := by
  rw [← sliLt_iff]
  unfold ltOf
  exact decide_eq_true_iff
theorem sliLt_left {a b c : SlipV} (e : a.by_ = b.by_ ∧ a.no = b.no) (h : sliLt a c) : sliLt b c := by
  unfold sliLt at h ⊢
  rw [← e.1, ← e.2]
  exact h
theorem sli_swo : SWO (ltOf sliO) where
  irrefl x := by
    rw [← Bool.not_eq_true, ltS_iff]
    exact fun h => sliLt_asym h h
  trans x y z h1 h2 := by
    rw [ltS_iff] at *
    exact sliLt_trans h1 h2
  ntrans x y z h1 h2 := by
    rw [← Bool.not_eq_true, ltS_iff] at *
    intro h
    rcases sliLt_tri x y with k | k | k
    · exact h1 k
    · exact h2 (sliLt_trans k h)
    · exact h2 (sliLt_left k h)
/-! ### the merge -/
theorem ExtS.turned {s : Nat} {a b c : World} (h : ExtS s a b) (hg : b.grownBy c (some s)) : ExtS s a c := h.trans ⟨hg.os, hg.tape, hg.output, hg.size, fun k hk hn => hg.block k hk fun e => hn (by simpa using e)⟩
end Go.Proofs.YtehboinleolihaaGreatDoor
