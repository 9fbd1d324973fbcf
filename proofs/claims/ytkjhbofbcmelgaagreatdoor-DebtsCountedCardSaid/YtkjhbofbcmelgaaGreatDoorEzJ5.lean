/- The name of middle c sharp, by tune. Conditions: none. Keys, by kit. Conditions: the string's size. Keys by the document's text. Conditions: sizes. Comparing plain numbers: the program's 'cmp' functions and the long product. Conditions: ranges as each theorem says. strings.Builder where its copy check can only be refused: copyCheck and WriteString; a builder stands when memory is made. Conditions: sizes. -/
import Derived.Test.YtkjhbofbcmelgaaGreatDoorEzJ2
import Derived.Test.YtkjhbofbcmelgaaGreatDoorEzShelf
import Derived.Deep.Light
import Derived.Shelf.Strings.SlTrimAscii
import Derived.WalkLawsBesides
import Derived.Outline
import Derived.Lib.FrozenHead2
import Derived.Lib.OthersKept
set_option linter.unusedSimpArgs false
set_option linter.unusedVariables false
namespace Go.Proofs.YtkjhbofbcmelgaaGreatDoor
open Go Go.RowKit
end Go.Proofs.YtkjhbofbcmelgaaGreatDoor
namespace Go.Proofs.YtkjhbofbcmelgaaGreatDoor
open Go Go.RowKit
def smallB : ByteArray := ⟨#[97,98,99,100,101,102,103,104,105,106,107,108,109,110,111,112,113,114,115,116,117,118,119,120,121,122]⟩
def keysB : ByteArray := ⟨#[97,98,99,100,101,102,103,104,105,106,107,108,109,110,111,112,113,114,115,116,117,118,119,120,121,122,48,49,50,51,52,53,54,55,56,57,45,95]⟩
def trimB (s : ByteArray) : ByteArray := ⟨(Lib.trimS s.data.toList keysB.data.toList).toArray⟩
/-- A key: 1 to 40 bytes, a small letter first, small letters, digits, - and _. -/
def keyB (s : ByteArray) : Bool := !s.toList.isEmpty && decide (s.size ≤ 40) && decide (0 ≤ Lib.indexByte smallB.data.toList (s.data.toList.getD 0 0)) && (trimB s).toList.isEmpty
theorem size_toList (s : ByteArray) : s.toList.isEmpty = false ↔ 0 < s.size := by
 have h1 : s.toList = s.data.toList := Lib.toList_data s
 have h2 : s.size = s.data.size := rfl
 rw [h1, h2]
 cases hd : s.data.toList with
 | nil =>
   have : s.data.size = 0 := by rw [← Array.length_toList, hd]; rfl
   simp [this]
 | cons x l =>
   have : s.data.size = l.length + 1 := by rw [← Array.length_toList, hd]; rfl
   simp [this]
theorem trim_any (s : ByteArray) (w : World) (hs : s.size ≤ 9223372036854775807) :
 Calls Tryz.prog 102 #[.string s, .string ⟨#[97,98,99,100,101,102,103,104,105,106,107,108,109,110,111,112,113,114,115,116,117,118,119,120,121,122,48,49,50,51,52,53,54,55,56,57,45,95]⟩] w fun e w' => e = .returned (.string (trimB s)) ∧ Ext w w' :=
 Any.strings_Trim_laid Tryz.lays160 (by kernel_rfl) s keysB w hs (by decide) (ascii_of_all (by decide))
theorem indexSmall_any (c : Int) (w : World) :
 Calls Tryz.prog 134 #[.string ⟨#[97,98,99,100,101,102,103,104,105,106,107,108,109,110,111,112,113,114,115,116,117,118,119,120,121,122]⟩, .int .u8 c] w fun e w' => e = .returned (.int .i64 (Lib.indexByte smallB.data.toList c.toNat.toUInt8)) ∧ w = w' :=
 (Tryz.strings_IndexByte smallB c w).mono fun e w' h => ⟨h.1, h.2.symm⟩
set_option maxRecDepth 100000 in
theorem isKey_any (s : ByteArray) (w : World) (hs : s.size ≤ 9223372036854775807) :
 Calls Tryz.prog 132 #[.string s] w fun e w' => e = .returned (.bool (keyB s)) ∧ Ext w w' := by
 have hK : keyB s = (!s.toList.isEmpty && decide (s.size ≤ 40) && decide (0 ≤ Lib.indexByte smallB.data.toList (s.data.toList.getD 0 0)) && (trimB s).toList.isEmpty) := rfl
 replace hK := Lib.hid hK
 cases h0 : s.toList.isEmpty
 case' false =>
  have hp := (size_toList s).1 h0
  have hg : s.data.toList.getD 0 0 = s[0] := by
   rw [List.getD_eq_getElem?_getD, List.getElem?_eq_getElem (by simpa using hp)]; rfl
  replace hg := Lib.hid hg
 all_goals
  go_enter Tryz.func132, Tryz.ntmps132
  go_wp2_with (first
   | (go_at_call 134; refine (indexSmall_any _ _).mono ?_; rintro e w' ⟨rfl, rfl⟩)
   | (go_at_call 102; refine (trim_any s _ hs).mono ?_; rintro e w' ⟨rfl, hb⟩))
 all_goals
  go_ret
  refine ⟨ret_bool ?_, by first | exact Ext.refl _ | assumption⟩
  rw [hK.out]
  first
   | (rw [hg.out]; simp [*]; done)
   | (simp [*]; done)
   | (rw [hg.out]; simp [*]; omega)
theorem isKey_is {s : ByteArray} {v : Bool} (h : keyB s = v) (hs : s.size ≤ 1000000000) (w : World) :
 Calls Tryz.prog 132 #[.string s] w fun e w' => e = .returned (.bool v) ∧ Ext w w' := h ▸ isKey_any s w (by omega)
end Go.Proofs.YtkjhbofbcmelgaaGreatDoor
namespace Go.Proofs.YtkjhbofbcmelgaaGreatDoor
open Go Go.RowKit
set_option maxRecDepth 100000 in
theorem key_any (s : ByteArray) (w : World) (hs : s.size ≤ 1000000000) :
 Calls Tryz.prog 76 #[.string s] w fun e w' => e = .returned (.bool (keyB s)) ∧ Ext w w' := by
 have hK : keyB s = (!s.toList.isEmpty && decide (s.size ≤ 40) && decide (0 ≤ Lib.indexByte smallB.data.toList (s.data.toList.getD 0 0)) && (trimB s).toList.isEmpty) := rfl
 replace hK := Lib.hid hK
 have hI : ∀ b : Bool, inB s.size 1 40 = b → (!s.toList.isEmpty && decide (s.size ≤ 40)) = b := by
  intro b hb
  rw [← hb]
  unfold inB
  cases h0 : s.toList.isEmpty
  ·have hp := (size_toList s).1 h0
   simp only [Bool.not_false, Bool.true_and]
   exact decide_eq_decide.2 (by omega)
  ·have hp : ¬ 0 < s.size := fun h => by rw [(size_toList s).2 h] at h0; cases h0
   simp only [Bool.not_true, Bool.false_and]
   exact (decide_eq_false (by omega)).symm
 cases hl : inB s.size 1 40
 ·have hI := Lib.hid (hI _ hl)
  go_enter Tryz.func76, Tryz.ntmps76
  go_wp2_with (go_at_call 74; refine (in_any _ _ _ _).mono ?_; rintro e w' ⟨rfl, rfl⟩)
  go_ret
  exact ⟨ret_bool (by rw [hK.out, hI.out]; rfl), Ext.refl _⟩
 ·have hb := inB_iff.1 hl
  have hp : 0 < s.size := by omega
  have hg : s.data.toList.getD 0 0 = s[0] := by
   rw [List.getD_eq_getElem?_getD, List.getElem?_eq_getElem (by simpa using hp)]; rfl
  replace hg := Lib.hid hg
  have hI := Lib.hid (hI _ hl)
  cases ht : (trimB s).toList.isEmpty
  all_goals
   go_enter Tryz.func76, Tryz.ntmps76
   go_wp2_with (first
    | (go_at_call 74; refine (in_any _ _ _ _).mono ?_; rintro e w' ⟨rfl, rfl⟩)
    | (go_at_call 134; refine (indexSmall_any _ _).mono ?_; rintro e w' ⟨rfl, rfl⟩)
    | (go_at_call 102; refine (trim_any s _ (by omega)).mono ?_; rintro e w' ⟨rfl, hb⟩))
   go_ret
   refine ⟨ret_bool ?_, by first | exact Ext.refl _ | assumption⟩
   rw [hK.out, hI.out]
   first
    | (rw [hg.out]; simp [*]; done)
    | (simp [*]; done)
    | (rw [hg.out]; simp [*]; omega)
theorem key_is {s : ByteArray} {v : Bool} (h : keyB s = v) (hs : s.size ≤ 1000000000) (w : World) :
 Calls Tryz.prog 76 #[.string s] w fun e w' => e = .returned (.bool v) ∧ Ext w w' := h ▸ key_any s w hs
end Go.Proofs.YtkjhbofbcmelgaaGreatDoor
namespace Go.Proofs.YtkjhbofbcmelgaaGreatDoor
open Go Go.RowKit
def cmpZ (x y : Int) : Int := if x < y then -1 else if x = y then 0 else 1
set_option maxRecDepth 100000 in
theorem isNaNI_any (x : Int) (w : World) :
 Calls Tryz.prog 141 #[.int .i64 x] w fun e w' => e = .returned (.bool false) ∧ w = w' := by
 go_enter Tryz.func141, Tryz.ntmps141
 go_wp2
 go_ret
 exact ⟨ret_bool (by simp), rfl⟩
set_option maxRecDepth 100000 in
theorem orInt_any (b off cap : Nat) (xs : List Int) (w : World) (hl : xs.length ≤ 1000) (hc : ∀ i, i < xs.length → w.cell? ⟨b, off + i, none⟩ = some (.int .i64 (xs.getD i 0))) :
 Calls Tryz.prog 85 #[.slice (some ⟨b, off, none⟩) xs.length cap] w fun e w' => e = .returned (.int .i64 (orF xs)) ∧ w = w' := by
 have HC := Lib.hid hc; clear hc
 go_enter Tryz.func85, Tryz.ntmps85
 go_wp2
 go_loop [8] (fun i => ∃ k : Nat, k ≤ xs.length ∧ i = .int .i64 k ∧ ZeroTo xs k) (fun i => xs.length - (intOf i).toNat)
 case atStart => exact ⟨0, Nat.zero_le _, rfl, fun j hj => by omega⟩
 case round =>
  obtain ⟨k, hk, rfl, hz⟩ := hrel
  by_cases hlt : k < xs.length
  ·have hcell := HC.out k hlt
   obtain ⟨v, hv⟩ : ∃ v, xs.getD k 0 = v := ⟨_, rfl⟩
   rw [hv] at hcell
   have HV := Lib.hid hv; clear hv
   cases hx : v != 0
   ·go_wp2
    go_round
    case rel => exact ⟨k + 1, by omega, by go_num, hz.succ (by rw [HV.out]; simpa using hx)⟩
    case measure => simp [intOf]; omega
   ·go_wp2
    go_ret
    exact ⟨ret_int (by rw [orF_at xs k hlt hz (by rw [HV.out]; simpa using hx), HV.out]), rfl⟩
  ·go_wp2
   go_ret
   exact ⟨ret_int (orF_zero xs k (by omega) hz).symm, rfl⟩
theorem orInt_blk (g t cap : Nat) (xs : List Int) (w : World) (hl : xs.length ≤ 1000) (hb : Blk w g t (xs.map (Value.int .i64)).toArray) :
 Calls Tryz.prog 85 #[.slice (some ⟨g, 0, none⟩) xs.length cap] w fun e w' => e = .returned (.int .i64 (orF xs)) ∧ w = w' :=
 orInt_any g 0 cap xs w hl fun i hi => by rw [hb.cell]; simp [hi]
end Go.Proofs.YtkjhbofbcmelgaaGreatDoor
namespace Go.Proofs.YtkjhbofbcmelgaaGreatDoor
open Go Go.RowKit
end Go.Proofs.YtkjhbofbcmelgaaGreatDoor
