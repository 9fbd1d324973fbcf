/- The name of middle c sharp, by tune. Conditions: none. Keys, by kit. Conditions: the string's size. -/
import Derived.Test.YtboplnogfjmpnaaGreatDoorVkJ2
import Derived.Test.YtboplnogfjmpnaaGreatDoorVkShelf
import Derived.Deep.Light
import Derived.Shelf.Strings.SlTrimAscii
set_option linter.unusedSimpArgs false
set_option linter.unusedVariables false
namespace Go.Proofs.YtboplnogfjmpnaaGreatDoor
open Go Go.RowKit

end Go.Proofs.YtboplnogfjmpnaaGreatDoor

namespace Go.Proofs.YtboplnogfjmpnaaGreatDoor
open Go Go.RowKit

def smallB : ByteArray := ⟨#[97, 98, 99, 100, 101, 102, 103, 104, 105, 106, 107, 108, 109, 110, 111, 112, 113, 114, 115, 116, 117, 118, 119, 120, 121, 122]⟩
def keysB : ByteArray := ⟨#[97, 98, 99, 100, 101, 102, 103, 104, 105, 106, 107, 108, 109, 110, 111, 112, 113, 114, 115, 116, 117, 118, 119, 120, 121, 122, 48, 49, 50, 51, 52, 53, 54, 55, 56, 57, 45, 95]⟩
def trimB (s : ByteArray) : ByteArray := ⟨(Lib.trimS s.data.toList keysB.data.toList).toArray⟩
/-- A key: 1 to 40 bytes, a small letter first, small letters, digits, - and _. -/
def keyB (s : ByteArray) : Bool := !s.toList.isEmpty && decide (s.size ≤ 40) && decide (0 ≤ Lib.indexByte smallB.data.toList (s.data.toList.getD 0 0)) && (trimB s).toList.isEmpty

theorem size_toList (s : ByteArray) : s.toList.isEmpty = false ↔ 0 < s.size := by
  have h1 : s.toList = s.data.toList := Lib.toList_data s
  have h2 : s.size = s.data.size := rfl
  rw [h1, h2]
  cases hd : s.data.toList with
  | nil =>
    have : s.data.size = 0 := by rw [← Array.length_toList, hd]; rfl
    simp [this]
  | cons x l =>
    have : s.data.size = l.length + 1 := by rw [← Array.length_toList, hd]; rfl
    simp [this]

theorem trim_any (s : ByteArray) (w : World) (hs : s.size ≤ 9223372036854775807) :
    Calls Tryz.prog 76 #[.string s, .string ⟨#[97, 98, 99, 100, 101, 102, 103, 104, 105, 106, 107, 108, 109, 110, 111, 112, 113, 114, 115, 116, 117, 118, 119, 120, 121, 122, 48, 49, 50, 51, 52, 53, 54, 55, 56, 57, 45, 95]⟩] w fun e w' => e = .returned (.string (trimB s)) ∧ Ext w w' :=
  Any.strings_Trim_laid Tryz.lays160 (by kernel_rfl) s keysB w hs (by decide) (ascii_of_all (by decide))

theorem indexSmall_any (c : Int) (w : World) :
    Calls Tryz.prog 77 #[.string ⟨#[97, 98, 99, 100, 101, 102, 103, 104, 105, 106, 107, 108, 109, 110, 111, 112, 113, 114, 115, 116, 117, 118, 119, 120, 121, 122]⟩, .int .u8 c] w fun e w' => e = .returned (.int .i64 (Lib.indexByte smallB.data.toList c.toNat.toUInt8)) ∧ w = w' :=
  (Tryz.strings_IndexByte smallB c w).mono fun e w' h => ⟨h.1, h.2.symm⟩

set_option maxRecDepth 100000 in
theorem isKey_any (s : ByteArray) (w : World) (hs : s.size ≤ 9223372036854775807) :
    Calls Tryz.prog 83 #[.string s] w fun e w' => e = .returned (.bool (keyB s)) ∧ Ext w w' := by
  have hK : keyB s = (!s.toList.isEmpty && decide (s.size ≤ 40) && decide (0 ≤ Lib.indexByte smallB.data.toList (s.data.toList.getD 0 0)) && (trimB s).toList.isEmpty) := rfl
  replace hK := Lib.hid hK
  cases h0 : s.toList.isEmpty
  case' false =>
    have hp := (size_toList s).1 h0
    have hg : s.data.toList.getD 0 0 = s[0] := by
      rw [List.getD_eq_getElem?_getD, List.getElem?_eq_getElem (by simpa using hp)]; rfl
    replace hg := Lib.hid hg
  all_goals
    go_enter Tryz.func83, Tryz.ntmps83
    go_wp2_with (first
      | (go_at_call 77; refine (indexSmall_any _ _).mono ?_; rintro e w' ⟨rfl, rfl⟩)
      | (go_at_call 76; refine (trim_any s _ hs).mono ?_; rintro e w' ⟨rfl, hb⟩))
  all_goals
    go_ret
    refine ⟨ret_bool ?_, by first | exact Ext.refl _ | assumption⟩
    rw [hK.out]
    first
      | (rw [hg.out]; simp [*]; done)
      | (simp [*]; done)
      | (rw [hg.out]; simp [*]; omega)

theorem isKey_is {s : ByteArray} {v : Bool} (h : keyB s = v) (hs : s.size ≤ 1000000000) (w : World) :
    Calls Tryz.prog 83 #[.string s] w fun e w' => e = .returned (.bool v) ∧ Ext w w' := h ▸ isKey_any s w (by omega)
end Go.Proofs.YtboplnogfjmpnaaGreatDoor
