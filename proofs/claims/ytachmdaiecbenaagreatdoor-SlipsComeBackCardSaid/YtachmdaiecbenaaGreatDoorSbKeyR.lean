/- Keys by the document's text. Conditions: sizes. -/
import Derived.Test.YtachmdaiecbenaaGreatDoorSbKeyP
import Derived.WalkLawsBesides
import Derived.Outline
set_option linter.unusedSimpArgs false
set_option linter.unusedVariables false
namespace Go.Proofs.YtachmdaiecbenaaGreatDoor
open Go Go.RowKit

set_option maxRecDepth 100000 in
theorem key_any (s : ByteArray) (w : World) (hs : s.size ≤ 1000000000) :
    Calls Tryz.prog 74 #[.string s] w fun e w' => e = .returned (.bool (keyB s)) ∧ Ext w w' := by
  have hK : keyB s = (!s.toList.isEmpty && decide (s.size ≤ 40) && decide (0 ≤ Lib.indexByte smallB.data.toList (s.data.toList.getD 0 0)) && (trimB s).toList.isEmpty) := rfl
  replace hK := Lib.hid hK
  have hI : ∀ b : Bool, inB s.size 1 40 = b → (!s.toList.isEmpty && decide (s.size ≤ 40)) = b := by
    intro b hb
    rw [← hb]
    unfold inB
    cases h0 : s.toList.isEmpty
    · have hp := (size_toList s).1 h0
      simp only [Bool.not_false, Bool.true_and]
      exact decide_eq_decide.2 (by omega)
    · have hp : ¬ 0 < s.size := fun h => by rw [(size_toList s).2 h] at h0; cases h0
      simp only [Bool.not_true, Bool.false_and]
      exact (decide_eq_false (by omega)).symm
  cases hl : inB s.size 1 40
  · have hI := Lib.hid (hI _ hl)
    go_enter Tryz.func74, Tryz.ntmps74
    go_wp2_with (go_at_call 75; refine (in_any _ _ _ _).mono ?_; rintro e w' ⟨rfl, rfl⟩)
    go_ret
    exact ⟨ret_bool (by rw [hK.out, hI.out]; rfl), Ext.refl _⟩
  · have hb := inB_iff.1 hl
    have hp : 0 < s.size := by omega
    have hg : s.data.toList.getD 0 0 = s[0] := by
      rw [List.getD_eq_getElem?_getD, List.getElem?_eq_getElem (by simpa using hp)]; rfl
    replace hg := Lib.hid hg
    have hI := Lib.hid (hI _ hl)
    cases ht : (trimB s).toList.isEmpty
    all_goals
      go_enter Tryz.func74, Tryz.ntmps74
      go_wp2_with (first
        | (go_at_call 75; refine (in_any _ _ _ _).mono ?_; rintro e w' ⟨rfl, rfl⟩)
        | (go_at_call 105; refine (indexSmall_any _ _).mono ?_; rintro e w' ⟨rfl, rfl⟩)
        | (go_at_call 104; refine (trim_any s _ (by omega)).mono ?_; rintro e w' ⟨rfl, hb⟩))
      go_ret
      refine ⟨ret_bool ?_, by first | exact Ext.refl _ | assumption⟩
      rw [hK.out, hI.out]
      first
        | (rw [hg.out]; simp [*]; done)
        | (simp [*]; done)
        | (rw [hg.out]; simp [*]; omega)

theorem key_is {s : ByteArray} {v : Bool} (h : keyB s = v) (hs : s.size ≤ 1000000000) (w : World) :
    Calls Tryz.prog 74 #[.string s] w fun e w' => e = .returned (.bool v) ∧ Ext w w' := h ▸ key_any s w hs
end Go.Proofs.YtachmdaiecbenaaGreatDoor
