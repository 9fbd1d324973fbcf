/- Keys by the document's text. Conditions: sizes. Comparing plain numbers: the program's 'cmp' functions and the long product. Conditions: ranges as each theorem says. -/
import Derived.Test.YtboplnogfjmpnaaGreatDoorVbKeyP
import Derived.WalkLawsBesides
import Derived.Outline
import Derived.Test.YtboplnogfjmpnaaGreatDoorVbKit
import Derived.Test.YtboplnogfjmpnaaGreatDoorVbShelf
set_option linter.unusedSimpArgs false
set_option linter.unusedVariables false
namespace Go.Proofs.YtboplnogfjmpnaaGreatDoor
open Go Go.RowKit

set_option maxRecDepth 100000 in
theorem key_any (s : ByteArray) (w : World) (hs : s.size ≤ 1000000000) :
    Calls Tryz.prog 45 #[.string s] w fun e w' => e = .returned (.bool (keyB s)) ∧ Ext w w' := by
  have hK : keyB s = (!s.toList.isEmpty && decide (s.size ≤ 40) && decide (0 ≤ Lib.indexByte smallB.data.toList (s.data.toList.getD 0 0)) && (trimB s).toList.isEmpty) := rfl
  replace hK := Lib.hid hK
  have hI : ∀ b : Bool, inB s.size 1 40 = b → (!s.toList.isEmpty && decide (s.size ≤ 40)) = b := by
    intro b hb
    rw [← hb]
    unfold inB
    cases h0 : s.toList.isEmpty
    · have hp := (size_toList s).1 h0
      simp only [Bool.not_false, Bool.true_and]
      exact decide_eq_decide.2 (by omega)
    · have hp : ¬ 0 < s.size := fun h => by rw [(size_toList s).2 h] at h0; cases h0
      simp only [Bool.not_true, Bool.false_and]
      exact (decide_eq_false (by omega)).symm
  cases hl : inB s.size 1 40
  · have hI := Lib.hid (hI _ hl)
    go_enter Tryz.func45, Tryz.ntmps45
    go_wp2_with (go_at_call 75; refine (in_any _ _ _ _).mono ?_; rintro e w' ⟨rfl, rfl⟩)
    go_ret
    exact ⟨ret_bool (by rw [hK.out, hI.out]; rfl), Ext.refl _⟩
  · have hb := inB_iff.1 hl
    have hp : 0 < s.size := by omega
    have hg : s.data.toList.getD 0 0 = s[0] := by
      rw [List.getD_eq_getElem?_getD, List.getElem?_eq_getElem (by simpa using hp)]; rfl
    replace hg := Lib.hid hg
    have hI := Lib.hid (hI _ hl)
    cases ht : (trimB s).toList.isEmpty
    all_goals
      go_enter Tryz.func45, Tryz.ntmps45
      go_wp2_with (first
        | (go_at_call 75; refine (in_any _ _ _ _).mono ?_; rintro e w' ⟨rfl, rfl⟩)
        | (go_at_call 77; refine (indexSmall_any _ _).mono ?_; rintro e w' ⟨rfl, rfl⟩)
        | (go_at_call 76; refine (trim_any s _ (by omega)).mono ?_; rintro e w' ⟨rfl, hb⟩))
      go_ret
      refine ⟨ret_bool ?_, by first | exact Ext.refl _ | assumption⟩
      rw [hK.out, hI.out]
      first
        | (rw [hg.out]; simp [*]; done)
        | (simp [*]; done)
        | (rw [hg.out]; simp [*]; omega)

theorem key_is {s : ByteArray} {v : Bool} (h : keyB s = v) (hs : s.size ≤ 1000000000) (w : World) :
    Calls Tryz.prog 45 #[.string s] w fun e w' => e = .returned (.bool v) ∧ Ext w w' := h ▸ key_any s w hs
end Go.Proofs.YtboplnogfjmpnaaGreatDoor

namespace Go.Proofs.YtboplnogfjmpnaaGreatDoor
open Go Go.RowKit

def cmpZ (x y : Int) : Int := if x < y then -1 else if x = y then 0 else 1
set_option maxRecDepth 100000 in
theorem orInt_any (b off cap : Nat) (xs : List Int) (w : World) (hl : xs.length ≤ 1000) (hc : ∀ i, i < xs.length → w.cell? ⟨b, off + i, none⟩ = some (.int .i64 (xs.getD i 0))) :
    Calls Tryz.prog 47 #[.slice (some ⟨b, off, none⟩) xs.length cap] w fun e w' => e = .returned (.int .i64 (orF xs)) ∧ w = w' := by
  have HC := Lib.hid hc; clear hc
  go_enter Tryz.func47, Tryz.ntmps47
  go_wp2
  go_loop [8] (fun i => ∃ k : Nat, k ≤ xs.length ∧ i = .int .i64 k ∧ ZeroTo xs k) (fun i => xs.length - (intOf i).toNat)
  case atStart => exact ⟨0, Nat.zero_le _, rfl, fun j hj => by omega⟩
  case round =>
    obtain ⟨k, hk, rfl, hz⟩ := hrel
    by_cases hlt : k < xs.length
    · have hcell := HC.out k hlt
      obtain ⟨v, hv⟩ : ∃ v, xs.getD k 0 = v := ⟨_, rfl⟩
      rw [hv] at hcell
      have HV := Lib.hid hv; clear hv
      cases hx : v != 0
      · go_wp2
        go_round
        case rel => exact ⟨k + 1, by omega, by go_num, hz.succ (by rw [HV.out]; simpa using hx)⟩
        case measure => simp [intOf]; omega
      · go_wp2
        go_ret
        exact ⟨ret_int (by rw [orF_at xs k hlt hz (by rw [HV.out]; simpa using hx), HV.out]), rfl⟩
    · go_wp2
      go_ret
      exact ⟨ret_int (orF_zero xs k (by omega) hz).symm, rfl⟩

end Go.Proofs.YtboplnogfjmpnaaGreatDoor
