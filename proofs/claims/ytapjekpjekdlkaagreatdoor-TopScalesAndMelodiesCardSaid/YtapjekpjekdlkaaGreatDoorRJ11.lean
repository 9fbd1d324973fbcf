/- Keys, by kit. Conditions: the string's size. Who is paid for, by tour. Conditions: sizes. -/
import Derived.Test.YtapjekpjekdlkaaGreatDoorRJ2
import Derived.Test.YtapjekpjekdlkaaGreatDoorRShelf
import Derived.Shelf.Strings.SlTrimAscii
import Derived.Test.YtapjekpjekdlkaaGreatDoorRJ5
import Derived.WalkLawsBesides
import Derived.Outline
set_option linter.unusedSimpArgs false
set_option linter.unusedVariables false
namespace Go.Proofs.YtapjekpjekdlkaaGreatDoor
open Go Go.RowKit

def smallB : ByteArray := ⟨#[97, 98, 99, 100, 101, 102, 103, 104, 105, 106, 107, 108, 109, 110, 111, 112, 113, 114, 115, 116, 117, 118, 119, 120, 121, 122]⟩
def keysB : ByteArray := ⟨#[97, 98, 99, 100, 101, 102, 103, 104, 105, 106, 107, 108, 109, 110, 111, 112, 113, 114, 115, 116, 117, 118, 119, 120, 121, 122, 48, 49, 50, 51, 52, 53, 54, 55, 56, 57, 45, 95]⟩
def trimB (s : ByteArray) : ByteArray := ⟨(Lib.trimS s.data.toList keysB.data.toList).toArray⟩
/-- A key: 1 to 40 bytes, a small letter first, small letters, digits, - and _. -/
def keyB (s : ByteArray) : Bool := !s.toList.isEmpty && decide (s.size ≤ 40) && decide (0 ≤ Lib.indexByte smallB.data.toList (s.data.toList.getD 0 0)) && (trimB s).toList.isEmpty

theorem size_toList (s : ByteArray) : s.toList.isEmpty = false ↔ 0 < s.size := by
  have h1 : s.toList = s.data.toList := Lib.toList_data s
  have h2 : s.size = s.data.size := rfl
  rw [h1, h2]
  cases hd : s.data.toList with
  | nil =>
    have : s.data.size = 0 := by rw [← Array.length_toList, hd]; rfl
    simp [this]
  | cons x l =>
    have : s.data.size = l.length + 1 := by rw [← Array.length_toList, hd]; rfl
    simp [this]

theorem trim_any (s : ByteArray) (w : World) (hs : s.size ≤ 9223372036854775807) :
    Calls Tryz.prog 77 #[.string s, .string ⟨#[97, 98, 99, 100, 101, 102, 103, 104, 105, 106, 107, 108, 109, 110, 111, 112, 113, 114, 115, 116, 117, 118, 119, 120, 121, 122, 48, 49, 50, 51, 52, 53, 54, 55, 56, 57, 45, 95]⟩] w fun e w' => e = .returned (.string (trimB s)) ∧ Ext w w' :=
  Any.strings_Trim_laid Tryz.lays160 (by kernel_rfl) s keysB w hs (by decide) (ascii_of_all (by decide))

theorem indexSmall_any (c : Int) (w : World) :
    Calls Tryz.prog 76 #[.string ⟨#[97, 98, 99, 100, 101, 102, 103, 104, 105, 106, 107, 108, 109, 110, 111, 112, 113, 114, 115, 116, 117, 118, 119, 120, 121, 122]⟩, .int .u8 c] w fun e w' => e = .returned (.int .i64 (Lib.indexByte smallB.data.toList c.toNat.toUInt8)) ∧ w = w' :=
  (Tryz.strings_IndexByte smallB c w).mono fun e w' h => ⟨h.1, h.2.symm⟩

set_option maxRecDepth 100000 in
theorem isKey_any (s : ByteArray) (w : World) (hs : s.size ≤ 9223372036854775807) :
    Calls Tryz.prog 63 #[.string s] w fun e w' => e = .returned (.bool (keyB s)) ∧ Ext w w' := by
  have hK : keyB s = (!s.toList.isEmpty && decide (s.size ≤ 40) && decide (0 ≤ Lib.indexByte smallB.data.toList (s.data.toList.getD 0 0)) && (trimB s).toList.isEmpty) := rfl
  replace hK := Lib.hid hK
  cases h0 : s.toList.isEmpty
  case' false =>
    have hp := (size_toList s).1 h0
    have hg : s.data.toList.getD 0 0 = s[0] := by
      rw [List.getD_eq_getElem?_getD, List.getElem?_eq_getElem (by simpa using hp)]; rfl
    replace hg := Lib.hid hg
  all_goals
    go_enter Tryz.func63, Tryz.ntmps63
    go_wp2_with (first
      | (go_at_call 76; refine (indexSmall_any _ _).mono ?_; rintro e w' ⟨rfl, rfl⟩)
      | (go_at_call 77; refine (trim_any s _ hs).mono ?_; rintro e w' ⟨rfl, hb⟩))
  all_goals
    go_ret
    refine ⟨ret_bool ?_, by first | exact Ext.refl _ | assumption⟩
    rw [hK.out]
    first
      | (rw [hg.out]; simp [*]; done)
      | (simp [*]; done)
      | (rw [hg.out]; simp [*]; omega)

theorem isKey_is {s : ByteArray} {v : Bool} (h : keyB s = v) (hs : s.size ≤ 1000000000) (w : World) :
    Calls Tryz.prog 63 #[.string s] w fun e w' => e = .returned (.bool v) ∧ Ext w w' := h ▸ isKey_any s w (by omega)
end Go.Proofs.YtapjekpjekdlkaaGreatDoor

namespace Go.Proofs.YtapjekpjekdlkaaGreatDoor
open Go Go.RowKit

def chkFor (ls : List ByteArray) (i : Nat) : Int :=
  if keyB (atL ByteArray.empty ls i) then (if 0 < i && leB (atL ByteArray.empty ls i) (atL ByteArray.empty ls (i - 1)) then 7 else 0) else 5
def forF (ls : List ByteArray) : Int := if ls.length = 0 then 8 else if 200 < ls.length then 2 else scanF ls.length (chkFor ls)

set_option maxRecDepth 100000 in
theorem forFault_any (p : Option Addr) (n c : Nat) (ls : List ByteArray) (w : World) (h : Sl 1 strC w p n ls) (hs : ∀ (i : Nat) (s : ByteArray), ls[i]? = some s → s.size ≤ 1000000000) :
    Calls Tryz.prog 65 #[.slice p n c] w fun e w' => e = .returned (.int .i64 (forF ls)) ∧ Ext w w' := by
  have hn := h.2.1
  have hl := h.1
  have hF : forF ls = if n = 0 then 8 else if 200 < n then 2 else scanF n (chkFor ls) := by unfold forF; rw [hl]
  replace hF := Lib.hid hF
  by_cases h0 : n = 0
  · have h0' : ((n : Int) == 0) = true := by simp [h0]
    replace h0 := Lib.hid h0
    clear h hl
    go_enter Tryz.func65, Tryz.ntmps65
    go_wp2
    go_ret
    exact ⟨ret_int (by rw [hF.out, if_pos h0.out]), Ext.refl _⟩
  · obtain ⟨b, off, rfl, hb, hE⟩ := h.2.2 h0
    clear h
    have h0' : ((n : Int) == 0) = false := by simp [h0]
    replace hl := Lib.hid hl
    by_cases h200 : 200 < n
    · go_enter Tryz.func65, Tryz.ntmps65
      go_wp2
      go_ret
      exact ⟨ret_int (by rw [hF.out, if_neg h0, if_pos h200]), Ext.refl _⟩
    have hd : decide (200 < (n : Int)) = false := by simp; omega
    go_enter Tryz.func65, Tryz.ntmps65
    go_wp2
    go_loopw [13] (fun i w' => ∃ k : Nat, k ≤ n ∧ i = .int .i64 k ∧ Zeros (chkFor ls) k ∧ Ext w w') (fun i _ => n - (intOf i).toNat)
    case atStart => exact ⟨0, Nat.zero_le _, rfl, fun _ hj => by omega, Ext.refl _⟩
    case round =>
      obtain ⟨k, hk, rfl, hz, he⟩ := hrel
      have hbw := Nat.lt_of_lt_of_le hb he.size
      by_cases hlt : k < n
      · obtain ⟨s, hx⟩ := getD_some hl.out hlt
        have hsz := hs k s hx
        have hcell := (hE.ext he hb).str hx
        have hchk : chkFor ls k = if keyB s then (if 0 < k && leB s (atL ByteArray.empty ls (k - 1)) then 7 else 0) else 5 := by unfold chkFor; rw [atL_of hx]
        replace hx := Lib.hid hx
        replace hchk := Lib.hid hchk
        by_cases hk0 : 0 < k
        · obtain ⟨s1, hx1⟩ := getD_some (i := k - 1) hl.out (by omega)
          have hcell1 := (hE.ext he hb).str hx1
          replace hx1 := Lib.hid hx1
          go_wp2_with (go_at_call 63; refine (isKey_any s _ (by omega)).mono ?_; rintro e w1 ⟨rfl, hb1⟩; obtain ⟨hc1, hf1, hz1⟩ := hb1.walk)
          · go_ret
            exact ⟨ret_int (by rw [hF.out, if_neg h0, if_neg h200]; exact scan_is hz hlt (by rw [hchk.out]; simp_all) (by decide)), he.trans hb1⟩
          · go_ret
            exact ⟨ret_int (by rw [hF.out, if_neg h0, if_neg h200]; exact scan_is hz hlt (by rw [hchk.out, atL_of hx1.out]; simp_all [leB]) (by decide)), he.trans hb1⟩
          · go_roundw
            case rel => exact ⟨k + 1, by omega, by go_num, hz.succ (by rw [hchk.out, atL_of hx1.out]; simp_all [leB]), he.trans hb1⟩
            case measure => simp [intOf]; omega
        · have hk1 : ((k : Int) == 0) = true := by simp; omega
          go_wp2_with (go_at_call 63; refine (isKey_any s _ (by omega)).mono ?_; rintro e w1 ⟨rfl, hb1⟩; obtain ⟨hc1, hf1, hz1⟩ := hb1.walk)
          · go_ret
            exact ⟨ret_int (by rw [hF.out, if_neg h0, if_neg h200]; exact scan_is hz hlt (by rw [hchk.out]; simp_all) (by decide)), he.trans hb1⟩
          · go_roundw
            case rel => exact ⟨k + 1, by omega, by go_num, hz.succ (by rw [hchk.out]; simp_all), he.trans hb1⟩
            case measure => simp [intOf]; omega
      · go_wp2
        go_ret
        obtain rfl : k = n := by omega
        exact ⟨ret_int (by rw [hF.out, if_neg h0, if_neg h200, scan_zero hz]), he⟩

end Go.Proofs.YtapjekpjekdlkaaGreatDoor
