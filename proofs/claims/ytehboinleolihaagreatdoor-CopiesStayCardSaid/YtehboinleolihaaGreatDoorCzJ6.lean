/- The name of middle c sharp, by tune. Conditions: none. Keys, by kit. Conditions: the string's size. Keys by the document's text. Conditions: sizes. Comparing plain numbers: the program's 'cmp' functions and the long product. Conditions: ranges as each theorem says. strings.Builder where its copy check can only be refused: copyCheck and WriteString; a builder stands when memory is made. Conditions: sizes. Who is paid for, by tour. Conditions: sizes. -/
import Derived.Test.YtehboinleolihaaGreatDoorCzJ2
import Derived.Test.YtehboinleolihaaGreatDoorCzShelf
import Derived.Deep.Light
import Derived.Shelf.Strings.SlTrimAscii
import Derived.WalkLawsBesides
import Derived.Outline
import Derived.Lib.FrozenHead2
import Derived.Lib.OthersKept
import Derived.Test.YtehboinleolihaaGreatDoorCzJ3
set_option linter.unusedSimpArgs false
set_option linter.unusedVariables false
namespace Go.Proofs.YtehboinleolihaaGreatDoor
open Go Go.RowKit
def nameCells : Array Value := #[.string ⟨#[99]⟩, .string ⟨#[99,35]⟩, .string ⟨#[100]⟩, .string ⟨#[100,35]⟩, .string ⟨#[101]⟩, .string ⟨#[102]⟩, .string ⟨#[102,35]⟩, .string ⟨#[103]⟩, .string ⟨#[103,35]⟩, .string ⟨#[97]⟩, .string ⟨#[97,35]⟩, .string ⟨#[98]⟩]
set_option maxRecDepth 100000 in
theorem names_any (w : World) :
 Calls Tryz.prog 197 #[] w fun e w' => e = .returned (.slice (some ⟨w.heap.size, 0, none⟩) 12 12) ∧ w' = w.alloc (.cells nameCells 9) := by
 go_enter Tryz.func197, Tryz.ntmps197
 go_wp2
 go_ret
 exact ⟨rfl, rfl⟩
theorem itoa4_any (w : World) :
 Calls Tryz.prog 110 #[.int .i64 4] w fun e w' => e = .returned (.string ⟨#[52]⟩) ∧ w = w' :=
 (Tryz.strconv_Itoa_small 4 (by omega) w).mono fun e w' h => ⟨h.1.trans (by kernel_rfl), h.2.symm⟩
set_option maxRecDepth 100000 in
theorem name61_any (w : World) :
 Calls Tryz.prog 122 #[.int .i64 61] w fun e w' => e = .returned (.tuple #[.string ⟨#[99,35,52]⟩, .int .i64 0]) ∧ Ext w w' := by
 have hO : outB 61 0 127 = false := by decide
 go_enter Tryz.func122, Tryz.ntmps122
 go_wp2_with (go_at_call 146; refine (outside_any 61 0 127 _).mono ?_; rintro e w' ⟨rfl, rfl⟩)
 refine wp_region_forks [1,2,5,6,7] 7 (fun w' => Ext w w') Ext (by kernel_rfl) (by kernel_rfl) Ext.refl (fun _ _ _ => Ext.trans) (fun _ _ h he => h.trans he) (by (repeat (with_reducible first | assumption | exact Blk.new' (by simp) | refine Blk.drew ?_ | refine Blk.alloc ?_ _ | exact Ext.refl _ | refine Ext.drew ?_ | refine Ext.alloc ?_ _))) ?_
 repeat
  first
   | (refine q_quiet rfl rfl (fun _ _ _ _ h => h) ?_
      apply Exists.intro
      refine ⟨fun w' hw' => ?_, ?_⟩
      ·obtain hH0 := hw'
       skip
       simp [go_sem, quietTo, World.cell?, Ext.refl, ↓IntWalk.iteOmega]
       first
        | rfl
      simp only [Act.put, sIA, sCS, sCZ])
   | (refine q_skip rfl rfl (fun _ _ _ _ h => h) ?_
      simp only [Act.put, sIA, sCS, sCZ])
 refine q_nil ?_
 try simp only [List.length_cons, List.length_nil, Nat.reduceAdd, Array.replicate_succ, Array.replicate_zero, List.push_toArray, List.nil_append, List.cons_append, sIA, sCS, sCZ]
 refine ww_one (i := 0) rfl rfl (by kernel_rfl) ?_
 intro w1 e1 h1 K1 hK1
 go_wp2_with (go_at_call 197; refine (names_any _).mono ?_; rintro e w2 ⟨rfl, rfl⟩)
 refine ⟨h1.alloc _, ?_⟩
 simp only [sIA, sCS, sCZ]
 refine ww_quiet [3,4,8,9,10,11] 0 (fun w' => Blk w' w1.heap.size 9 nameCells ∧ Ext w w') rfl (by kernel_rfl) (by kernel_rfl) Ext.refl (fun _ _ _ => Ext.trans) (fun _ _ h he => ⟨h.1.ext he, h.2.trans he⟩) ⟨(by (repeat (with_reducible first | assumption | exact Blk.new' (by simp) | refine Blk.drew ?_ | refine Blk.alloc ?_ _ | exact Ext.refl _ | refine Ext.drew ?_ | refine Ext.alloc ?_ _))), (by (repeat (with_reducible first | assumption | exact Blk.new' (by simp) | refine Blk.drew ?_ | refine Blk.alloc ?_ _ | exact Ext.refl _ | refine Ext.drew ?_ | refine Ext.alloc ?_ _)))⟩ (fun _ h => h.2) ?_
 repeat
  first
   | (refine q_quiet rfl rfl (fun _ _ _ _ h => h) ?_
      apply Exists.intro
      refine ⟨fun w' hw' => ?_, ?_⟩
      ·obtain ⟨hH20, hH21⟩ := hw'
       unfold Blk at hH20
       simp [go_sem, quietTo, World.cell?, hH20, Ext.refl, ↓IntWalk.iteOmega, nameCells]
       first
        | rfl
        | (exact (itoa4_any _).mono fun _ _ h => ⟨h.1, h.2 ▸ Ext.refl _⟩)
      simp only [Act.put, sIA, sCS, sCZ])
   | (refine q_skip rfl rfl (fun _ _ _ _ h => h) ?_
      simp only [Act.put, sIA, sCS, sCZ])
 refine q_nil ?_
 try simp only [List.length_cons, List.length_nil, Nat.reduceAdd, Array.replicate_succ, Array.replicate_zero, List.push_toArray, List.nil_append, List.cons_append, sIA, sCS, sCZ]
 refine ww_done (by kernel_rfl) fun w8 e8 h8 => ?_
 have he8 := h8.2
 dsimp only [Exit.then]
 go_wp2
 go_light
 exact bodyPost_ret (v := .tuple #[.string ⟨#[99,35,52]⟩, .int .i64 0]) (by simp [results, Tryz.results122, go_sem, *]; try rfl) rfl ⟨rfl, (by (repeat (with_reducible first | assumption | exact Ext.refl _ | refine Ext.drew ?_ | refine Ext.alloc ?_ _ | refine Ext.setCell ?_ (by simp <;> omega) _ | refine Ext.trans ?_ (by assumption))))⟩
end Go.Proofs.YtehboinleolihaaGreatDoor
namespace Go.Proofs.YtehboinleolihaaGreatDoor
open Go Go.RowKit
def smallB : ByteArray := ⟨#[97,98,99,100,101,102,103,104,105,106,107,108,109,110,111,112,113,114,115,116,117,118,119,120,121,122]⟩
def keysB : ByteArray := ⟨#[97,98,99,100,101,102,103,104,105,106,107,108,109,110,111,112,113,114,115,116,117,118,119,120,121,122,48,49,50,51,52,53,54,55,56,57,45,95]⟩
def trimB (s : ByteArray) : ByteArray := ⟨(Lib.trimS s.data.toList keysB.data.toList).toArray⟩
/-- A key: 1 to 40 bytes, a small letter first, small letters, digits, - and _. -/
def keyB (s : ByteArray) : Bool := !s.toList.isEmpty && decide (s.size ≤ 40) && decide (0 ≤ Lib.indexByte smallB.data.toList (s.data.toList.getD 0 0)) && (trimB s).toList.isEmpty
theorem size_toList (s : ByteArray) : s.toList.isEmpty = false ↔ 0 < s.size := by
 have h1 : s.toList = s.data.toList := Lib.toList_data s
 have h2 : s.size = s.data.size := rfl
 rw [h1, h2]
 cases hd : s.data.toList with
 | nil =>
   have : s.data.size = 0 := by rw [← Array.length_toList, hd]; rfl
   simp [this]
 | cons x l =>
   have : s.data.size = l.length + 1 := by rw [← Array.length_toList, hd]; rfl
   simp [this]
theorem trim_any (s : ByteArray) (w : World) (hs : s.size ≤ 9223372036854775807) :
 Calls Tryz.prog 128 #[.string s, .string ⟨#[97,98,99,100,101,102,103,104,105,106,107,108,109,110,111,112,113,114,115,116,117,118,119,120,121,122,48,49,50,51,52,53,54,55,56,57,45,95]⟩] w fun e w' => e = .returned (.string (trimB s)) ∧ Ext w w' :=
 Any.strings_Trim_laid Tryz.lays160 (by kernel_rfl) s keysB w hs (by decide) (ascii_of_all (by decide))
theorem indexSmall_any (c : Int) (w : World) :
 Calls Tryz.prog 181 #[.string ⟨#[97,98,99,100,101,102,103,104,105,106,107,108,109,110,111,112,113,114,115,116,117,118,119,120,121,122]⟩, .int .u8 c] w fun e w' => e = .returned (.int .i64 (Lib.indexByte smallB.data.toList c.toNat.toUInt8)) ∧ w = w' :=
 (Tryz.strings_IndexByte smallB c w).mono fun e w' h => ⟨h.1, h.2.symm⟩
set_option maxRecDepth 100000 in
theorem isKey_any (s : ByteArray) (w : World) (hs : s.size ≤ 9223372036854775807) :
 Calls Tryz.prog 145 #[.string s] w fun e w' => e = .returned (.bool (keyB s)) ∧ Ext w w' := by
 have hK : keyB s = (!s.toList.isEmpty && decide (s.size ≤ 40) && decide (0 ≤ Lib.indexByte smallB.data.toList (s.data.toList.getD 0 0)) && (trimB s).toList.isEmpty) := rfl
 replace hK := Lib.hid hK
 cases h0 : s.toList.isEmpty
 case' false =>
  have hp := (size_toList s).1 h0
  have hg : s.data.toList.getD 0 0 = s[0] := by
   rw [List.getD_eq_getElem?_getD, List.getElem?_eq_getElem (by simpa using hp)]; rfl
  replace hg := Lib.hid hg
 all_goals
  go_enter Tryz.func145, Tryz.ntmps145
  go_wp2_with (first
   | (go_at_call 181; refine (indexSmall_any _ _).mono ?_; rintro e w' ⟨rfl, rfl⟩)
   | (go_at_call 128; refine (trim_any s _ hs).mono ?_; rintro e w' ⟨rfl, hb⟩))
 all_goals
  go_ret
  refine ⟨ret_bool ?_, by first | exact Ext.refl _ | assumption⟩
  rw [hK.out]
  first
   | (rw [hg.out]; simp [*]; done)
   | (simp [*]; done)
   | (rw [hg.out]; simp [*]; omega)
theorem isKey_is {s : ByteArray} {v : Bool} (h : keyB s = v) (hs : s.size ≤ 1000000000) (w : World) :
 Calls Tryz.prog 145 #[.string s] w fun e w' => e = .returned (.bool v) ∧ Ext w w' := h ▸ isKey_any s w (by omega)
end Go.Proofs.YtehboinleolihaaGreatDoor
namespace Go.Proofs.YtehboinleolihaaGreatDoor
open Go Go.RowKit
set_option maxRecDepth 100000 in
theorem key_any (s : ByteArray) (w : World) (hs : s.size ≤ 1000000000) :
 Calls Tryz.prog 98 #[.string s] w fun e w' => e = .returned (.bool (keyB s)) ∧ Ext w w' := by
 have hK : keyB s = (!s.toList.isEmpty && decide (s.size ≤ 40) && decide (0 ≤ Lib.indexByte smallB.data.toList (s.data.toList.getD 0 0)) && (trimB s).toList.isEmpty) := rfl
 replace hK := Lib.hid hK
 have hI : ∀ b : Bool, inB s.size 1 40 = b → (!s.toList.isEmpty && decide (s.size ≤ 40)) = b := by
  intro b hb
  rw [← hb]
  unfold inB
  cases h0 : s.toList.isEmpty
  ·have hp := (size_toList s).1 h0
   simp only [Bool.not_false, Bool.true_and]
   exact decide_eq_decide.2 (by omega)
  ·have hp : ¬ 0 < s.size := fun h => by rw [(size_toList s).2 h] at h0; cases h0
   simp only [Bool.not_true, Bool.false_and]
   exact (decide_eq_false (by omega)).symm
 cases hl : inB s.size 1 40
 ·have hI := Lib.hid (hI _ hl)
  go_enter Tryz.func98, Tryz.ntmps98
  go_wp2_with (go_at_call 96; refine (in_any _ _ _ _).mono ?_; rintro e w' ⟨rfl, rfl⟩)
  go_ret
  exact ⟨ret_bool (by rw [hK.out, hI.out]; rfl), Ext.refl _⟩
 ·have hb := inB_iff.1 hl
  have hp : 0 < s.size := by omega
  have hg : s.data.toList.getD 0 0 = s[0] := by
   rw [List.getD_eq_getElem?_getD, List.getElem?_eq_getElem (by simpa using hp)]; rfl
  replace hg := Lib.hid hg
  have hI := Lib.hid (hI _ hl)
  cases ht : (trimB s).toList.isEmpty
  all_goals
   go_enter Tryz.func98, Tryz.ntmps98
   go_wp2_with (first
    | (go_at_call 96; refine (in_any _ _ _ _).mono ?_; rintro e w' ⟨rfl, rfl⟩)
    | (go_at_call 181; refine (indexSmall_any _ _).mono ?_; rintro e w' ⟨rfl, rfl⟩)
    | (go_at_call 128; refine (trim_any s _ (by omega)).mono ?_; rintro e w' ⟨rfl, hb⟩))
   go_ret
   refine ⟨ret_bool ?_, by first | exact Ext.refl _ | assumption⟩
   rw [hK.out, hI.out]
   first
    | (rw [hg.out]; simp [*]; done)
    | (simp [*]; done)
    | (rw [hg.out]; simp [*]; omega)
theorem key_is {s : ByteArray} {v : Bool} (h : keyB s = v) (hs : s.size ≤ 1000000000) (w : World) :
 Calls Tryz.prog 98 #[.string s] w fun e w' => e = .returned (.bool v) ∧ Ext w w' := h ▸ key_any s w hs
end Go.Proofs.YtehboinleolihaaGreatDoor
namespace Go.Proofs.YtehboinleolihaaGreatDoor
open Go Go.RowKit
def cmpZ (x y : Int) : Int := if x < y then -1 else if x = y then 0 else 1
set_option maxRecDepth 100000 in
theorem isNaNI_any (x : Int) (w : World) :
 Calls Tryz.prog 188 #[.int .i64 x] w fun e w' => e = .returned (.bool false) ∧ w = w' := by
 go_enter Tryz.func188, Tryz.ntmps188
 go_wp2
 go_ret
 exact ⟨ret_bool (by simp), rfl⟩
set_option maxRecDepth 100000 in
theorem orInt_any (b off cap : Nat) (xs : List Int) (w : World) (hl : xs.length ≤ 1000) (hc : ∀ i, i < xs.length → w.cell? ⟨b, off + i, none⟩ = some (.int .i64 (xs.getD i 0))) :
 Calls Tryz.prog 107 #[.slice (some ⟨b, off, none⟩) xs.length cap] w fun e w' => e = .returned (.int .i64 (orF xs)) ∧ w = w' := by
 have HC := Lib.hid hc; clear hc
 go_enter Tryz.func107, Tryz.ntmps107
 go_wp2
 go_loop [8] (fun i => ∃ k : Nat, k ≤ xs.length ∧ i = .int .i64 k ∧ ZeroTo xs k) (fun i => xs.length - (intOf i).toNat)
 case atStart => exact ⟨0, Nat.zero_le _, rfl, fun j hj => by omega⟩
 case round =>
  obtain ⟨k, hk, rfl, hz⟩ := hrel
  by_cases hlt : k < xs.length
  ·have hcell := HC.out k hlt
   obtain ⟨v, hv⟩ : ∃ v, xs.getD k 0 = v := ⟨_, rfl⟩
   rw [hv] at hcell
   have HV := Lib.hid hv; clear hv
   cases hx : v != 0
   ·go_wp2
    go_round
    case rel => exact ⟨k + 1, by omega, by go_num, hz.succ (by rw [HV.out]; simpa using hx)⟩
    case measure => simp [intOf]; omega
   ·go_wp2
    go_ret
    exact ⟨ret_int (by rw [orF_at xs k hlt hz (by rw [HV.out]; simpa using hx), HV.out]), rfl⟩
  ·go_wp2
   go_ret
   exact ⟨ret_int (orF_zero xs k (by omega) hz).symm, rfl⟩
theorem orInt_blk (g t cap : Nat) (xs : List Int) (w : World) (hl : xs.length ≤ 1000) (hb : Blk w g t (xs.map (Value.int .i64)).toArray) :
 Calls Tryz.prog 107 #[.slice (some ⟨g, 0, none⟩) xs.length cap] w fun e w' => e = .returned (.int .i64 (orF xs)) ∧ w = w' :=
 orInt_any g 0 cap xs w hl fun i hi => by rw [hb.cell]; simp [hi]
end Go.Proofs.YtehboinleolihaaGreatDoor
namespace Go.Proofs.YtehboinleolihaaGreatDoor
open Go Go.RowKit
end Go.Proofs.YtehboinleolihaaGreatDoor
namespace Go.Proofs.YtehboinleolihaaGreatDoor
open Go Go.RowKit
def chkFor (ls : List ByteArray) (i : Nat) : Int :=
 if keyB (atL ByteArray.empty ls i) then (if 0 < i && leB (atL ByteArray.empty ls i) (atL ByteArray.empty ls (i - 1)) then 7 else 0) else 5
def forF (ls : List ByteArray) : Int := if ls.length = 0 then 8 else if 200 < ls.length then 2 else scanF ls.length (chkFor ls)
set_option maxRecDepth 100000 in
theorem forFault_any (p : Option Addr) (n c : Nat) (ls : List ByteArray) (w : World) (h : Sl 1 strC w p n ls) (hs : ∀ (i : Nat) (s : ByteArray), ls[i]? = some s → s.size ≤ 1000000000) :
 Calls Tryz.prog 251 #[.slice p n c] w fun e w' => e = .returned (.int .i64 (forF ls)) ∧ Ext w w' := by
 have hn := h.2.1
 have hl := h.1
 have hF : forF ls = if n = 0 then 8 else if 200 < n then 2 else scanF n (chkFor ls) := by unfold forF; rw [hl]
 replace hF := Lib.hid hF
 by_cases h0 : n = 0
 ·have h0' : ((n : Int) == 0) = true := by simp [h0]
  replace h0 := Lib.hid h0; clear h hl
  go_enter Tryz.func251, Tryz.ntmps251
  go_wp2
  go_ret
  exact ⟨ret_int (by rw [hF.out, if_pos h0.out]), Ext.refl _⟩
 ·obtain ⟨b, off, rfl, hb, hE⟩ := h.2.2 h0
  clear h
  have h0' : ((n : Int) == 0) = false := by simp [h0]
  replace hl := Lib.hid hl
  by_cases h200 : 200 < n
  ·go_enter Tryz.func251, Tryz.ntmps251
   go_wp2
   go_ret
   exact ⟨ret_int (by rw [hF.out, if_neg h0, if_pos h200]), Ext.refl _⟩
  have hd : decide (200 < (n : Int)) = false := by simp; omega
  go_enter Tryz.func251, Tryz.ntmps251
  go_wp2
  go_loopw [13] (fun i w' => ∃ k : Nat, k ≤ n ∧ i = .int .i64 k ∧ Zeros (chkFor ls) k ∧ Ext w w') (fun i _ => n - (intOf i).toNat)
  case atStart => exact ⟨0, Nat.zero_le _, rfl, fun _ hj => by omega, Ext.refl _⟩
  case round =>
   obtain ⟨k, hk, rfl, hz, he⟩ := hrel
   have hbw := Nat.lt_of_lt_of_le hb he.size
   by_cases hlt : k < n
   ·obtain ⟨s, hx⟩ := getD_some hl.out hlt
    have hsz := hs k s hx
    have hcell := (hE.ext he hb).str hx
    have hchk : chkFor ls k = if keyB s then (if 0 < k && leB s (atL ByteArray.empty ls (k - 1)) then 7 else 0) else 5 := by unfold chkFor; rw [atL_of hx]
    replace hx := Lib.hid hx; replace hchk := Lib.hid hchk
    by_cases hk0 : 0 < k
    ·obtain ⟨s1, hx1⟩ := getD_some (i := k - 1) hl.out (by omega)
     have hcell1 := (hE.ext he hb).str hx1
     replace hx1 := Lib.hid hx1
     go_wp2_with (go_at_call 145; refine (isKey_any s _ (by omega)).mono ?_; rintro e w1 ⟨rfl, hb1⟩; obtain ⟨hc1, hf1, hz1⟩ := hb1.walk)
     ·go_ret
      exact ⟨ret_int (by rw [hF.out, if_neg h0, if_neg h200]; exact scan_is hz hlt (by rw [hchk.out]; simp_all) (by decide)), he.trans hb1⟩
     ·go_ret
      exact ⟨ret_int (by rw [hF.out, if_neg h0, if_neg h200]; exact scan_is hz hlt (by rw [hchk.out, atL_of hx1.out]; simp_all [leB]) (by decide)), he.trans hb1⟩
     ·go_roundw
      case rel => exact ⟨k + 1, by omega, by go_num, hz.succ (by rw [hchk.out, atL_of hx1.out]; simp_all [leB]), he.trans hb1⟩
      case measure => simp [intOf]; omega
    ·have hk1 : ((k : Int) == 0) = true := by simp; omega
     go_wp2_with (go_at_call 145; refine (isKey_any s _ (by omega)).mono ?_; rintro e w1 ⟨rfl, hb1⟩; obtain ⟨hc1, hf1, hz1⟩ := hb1.walk)
     ·go_ret
      exact ⟨ret_int (by rw [hF.out, if_neg h0, if_neg h200]; exact scan_is hz hlt (by rw [hchk.out]; simp_all) (by decide)), he.trans hb1⟩
     ·go_roundw
      case rel => exact ⟨k + 1, by omega, by go_num, hz.succ (by rw [hchk.out]; simp_all), he.trans hb1⟩
      case measure => simp [intOf]; omega
   ·go_wp2
    go_ret
    obtain rfl : k = n := by omega
    exact ⟨ret_int (by rw [hF.out, if_neg h0, if_neg h200, scan_zero hz]), he⟩
end Go.Proofs.YtehboinleolihaaGreatDoor
