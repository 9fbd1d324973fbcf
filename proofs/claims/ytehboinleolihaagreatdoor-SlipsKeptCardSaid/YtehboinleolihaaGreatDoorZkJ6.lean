/- The name of middle c sharp, by tune. Conditions: none. Keys, by kit. Conditions: the string's size. strings.Builder where its copy check can only be refused: copyCheck and WriteString; a builder stands when memory is made. Conditions: sizes. Keys by the document's text. Conditions: sizes. Comparing plain numbers: the program's 'cmp' functions and the long product. Conditions: ranges as each theorem says. -/
import Derived.Test.YtehboinleolihaaGreatDoorZkJ2
import Derived.Test.YtehboinleolihaaGreatDoorZkShelf
import Derived.Deep.Light
import Derived.Shelf.Strings.SlTrimAscii
import Derived.Lib.FrozenHead2
import Derived.Lib.OthersKept
import Derived.WalkLawsBesides
import Derived.Outline
set_option linter.unusedSimpArgs false
set_option linter.unusedVariables false
namespace Go.Proofs.YtehboinleolihaaGreatDoor
open Go Go.RowKit
end Go.Proofs.YtehboinleolihaaGreatDoor
namespace Go.Proofs.YtehboinleolihaaGreatDoor
open Go Go.RowKit
def smallB : ByteArray := ⟨#[97,98,99,100,101,102,103,104,105,106,107,108,109,110,111,112,113,114,115,116,117,118,119,120,121,122]⟩
def keysB : ByteArray := ⟨#[97,98,99,100,101,102,103,104,105,106,107,108,109,110,111,112,113,114,115,116,117,118,119,120,121,122,48,49,50,51,52,53,54,55,56,57,45,95]⟩
def trimB (s : ByteArray) : ByteArray := ⟨(Lib.trimS s.data.toList keysB.data.toList).toArray⟩
/-- A key: 1 to 40 bytes, a small letter first, small letters, digits, - and _. -/
def keyB (s : ByteArray) : Bool := !s.toList.isEmpty && decide (s.size ≤ 40) && decide (0 ≤ Lib.indexByte smallB.data.toList (s.data.toList.getD 0 0)) && (trimB s).toList.isEmpty
theorem size_toList (s : ByteArray) : s.toList.isEmpty = false ↔ 0 < s.size := by
 have h1 : s.toList = s.data.toList := Lib.toList_data s
 have h2 : s.size = s.data.size := rfl
 rw [h1, h2]
 cases hd : s.data.toList with
 | nil =>
   have : s.data.size = 0 := by rw [← Array.length_toList, hd]; rfl
   simp [this]
 | cons x l =>
   have : s.data.size = l.length + 1 := by rw [← Array.length_toList, hd]; rfl
   simp [this]
theorem trim_any (s : ByteArray) (w : World) (hs : s.size ≤ 9223372036854775807) :
 Calls Tryz.prog 128 #[.string s, .string ⟨#[97,98,99,100,101,102,103,104,105,106,107,108,109,110,111,112,113,114,115,116,117,118,119,120,121,122,48,49,50,51,52,53,54,55,56,57,45,95]⟩] w fun e w' => e = .returned (.string (trimB s)) ∧ Ext w w' :=
 Any.strings_Trim_laid Tryz.lays160 (by kernel_rfl) s keysB w hs (by decide) (ascii_of_all (by decide))
theorem indexSmall_any (c : Int) (w : World) :
 Calls Tryz.prog 181 #[.string ⟨#[97,98,99,100,101,102,103,104,105,106,107,108,109,110,111,112,113,114,115,116,117,118,119,120,121,122]⟩, .int .u8 c] w fun e w' => e = .returned (.int .i64 (Lib.indexByte smallB.data.toList c.toNat.toUInt8)) ∧ w = w' :=
 (Tryz.strings_IndexByte smallB c w).mono fun e w' h => ⟨h.1, h.2.symm⟩
set_option maxRecDepth 100000 in
theorem isKey_any (s : ByteArray) (w : World) (hs : s.size ≤ 9223372036854775807) :
 Calls Tryz.prog 145 #[.string s] w fun e w' => e = .returned (.bool (keyB s)) ∧ Ext w w' := by
 have hK : keyB s = (!s.toList.isEmpty && decide (s.size ≤ 40) && decide (0 ≤ Lib.indexByte smallB.data.toList (s.data.toList.getD 0 0)) && (trimB s).toList.isEmpty) := rfl
 replace hK := Lib.hid hK
 cases h0 : s.toList.isEmpty
 case' false =>
  have hp := (size_toList s).1 h0
  have hg : s.data.toList.getD 0 0 = s[0] := by
   rw [List.getD_eq_getElem?_getD, List.getElem?_eq_getElem (by simpa using hp)]; rfl
  replace hg := Lib.hid hg
 all_goals
  go_enter Tryz.func145, Tryz.ntmps145
  go_wp2_with (first
   | (go_at_call 181; refine (indexSmall_any _ _).mono ?_; rintro e w' ⟨rfl, rfl⟩)
   | (go_at_call 128; refine (trim_any s _ hs).mono ?_; rintro e w' ⟨rfl, hb⟩))
 all_goals
  go_ret
  refine ⟨ret_bool ?_, by first | exact Ext.refl _ | assumption⟩
  rw [hK.out]
  first
   | (rw [hg.out]; simp [*]; done)
   | (simp [*]; done)
   | (rw [hg.out]; simp [*]; omega)
theorem isKey_is {s : ByteArray} {v : Bool} (h : keyB s = v) (hs : s.size ≤ 1000000000) (w : World) :
 Calls Tryz.prog 145 #[.string s] w fun e w' => e = .returned (.bool v) ∧ Ext w w' := h ▸ isKey_any s w (by omega)
end Go.Proofs.YtehboinleolihaaGreatDoor
namespace Go.Proofs.YtehboinleolihaaGreatDoor
open Go Go.RowKit
abbrev BldF (B b : Nat) (bs : List Value) (w : World) : Prop := Lib.IsBuilderF 227 5 B b bs w
abbrev BldK (b : Nat) (w w' : World) : Prop := Lib.OthersKept 5 (some b) w w'
theorem heap_lt {w : World} {g : Nat} {o : Obj} (h : w.heap[g]? = some o) : g < w.heap.size := by
 rcases Nat.lt_or_ge g w.heap.size with h' | h'
 ·exact h'
 ·rw [Array.getElem?_eq_none h'] at h; cases h
theorem bldAt_ext {B b : Nat} {p : Value} {bs : List Value} {w w' : World} (h : Lib.BuilderAtF 227 5 B b p bs w) (he : Ext w w') : Lib.BuilderAtF 227 5 B b p bs w' := by
 obtain ⟨hB, v, hbk, hown, hne⟩ := h
 refine ⟨hB, v, (he.blk (heap_lt hbk)).trans hbk, ⟨hown.1, ?_⟩, hne⟩
 rcases hown.2 with h0 | ⟨g, cap, cur, fz, hv, hbg, hg, r⟩
 ·exact .inl h0
 ·exact .inr ⟨g, cap, cur, fz, hv, hbg, (he.blk (heap_lt hg)).trans hg, r⟩
theorem bld_ext {B b : Nat} {bs : List Value} {w w' : World} (h : BldF B b bs w) (he : Ext w w') : BldF B b bs w' := h.elim (fun x => .inl (bldAt_ext x he)) (fun x => .inr (bldAt_ext x he))
/-- A builder that is made. -/
theorem bld_new (w : World) : BldF w.heap.size w.heap.size [] (w.alloc (.cells #[.pointer none, .slice none 0 0] 227 (0,0))) :=
 .inl ⟨Nat.le_refl _, _, heap_alloc_new w _, ⟨rfl, .inl ⟨rfl, rfl⟩⟩, by simp [Value.ownBlock]⟩
set_option maxRecDepth 100000 in
theorem copyCheck_fresh (b : Nat) (w : World) (h0 : w.cell? ⟨b, 0, none⟩ = some (.pointer none)) (hsh : w.shape? b = some (227,2)) (hfz : w.frozen? ⟨b, 0, none⟩ = false) :
 Calls Tryz.prog 217 #[.pointer (some ⟨b, 0, none⟩)] w fun e w' => e = .returned (.tuple #[]) ∧ w' = w.setCell ⟨b, 0, none⟩ (.pointer (some ⟨b, 0, none⟩)) := by
 have hsz : (Tryz.prog.info? 227).map (·.size) = some 2 := by kernel_rfl
 obtain ⟨j, hj, hjs⟩ := Option.map_eq_some_iff.1 hsz
 have hlies : liesAt Tryz.prog Tryz.prog.depth 227 (2 / Tryz.prog.cellsOf 227) 0 227 1 = true := by kernel_rfl
 go_enter Tryz.func217, Tryz.ntmps217
 go_wp2
 rw [Lib.run_to_unsafe w ⟨b, 0, none⟩ Tryz.underlying224 Tryz.underlying322 hj (by rw [hjs]; decide) hsh (Nat.zero_lt_succ 1)]
 simp only [Result.andThen]
 rw [Oper.upon_value]
 go_wp2
 rw [run_callFunc_extern Tryz.func272 (by kernel_rfl) (by kernel_rfl) (by kernel_rfl) (e := Extern.AbiNoEscape.same) (by kernel_rfl)]
 rw [Lib.run_noEscape]
 simp only [Result.andThen]
 rw [Oper.upon_value]
 go_wp2
 rw [Lib.run_from_unsafe w ⟨b, 0, none⟩ Tryz.underlying322 Tryz.underlying224 hj hsh hlies]
 simp only [Result.andThen]
 rw [Oper.upon_value]
 go_wp2
 go_end0
 exact ⟨rfl, rfl⟩
set_option maxRecDepth 100000 in
theorem copyCheck_used (b : Nat) (w : World) (h0 : w.cell? ⟨b, 0, none⟩ = some (.pointer (some ⟨b, 0, none⟩))) :
 Calls Tryz.prog 217 #[.pointer (some ⟨b, 0, none⟩)] w fun e w' => e = .returned (.tuple #[]) ∧ w' = w := by
 have hsz : (Tryz.prog.info? 227).map (·.size) = some 2 := by kernel_rfl
 obtain ⟨j, hj, -⟩ := Option.map_eq_some_iff.1 hsz
 go_enter Tryz.func217, Tryz.ntmps217
 go_wp2
 rw [Lib.run_neq_ptr_same w _ Tryz.underlying224 hj]
 go_wp2
 go_end0
 exact ⟨rfl, rfl⟩
theorem copyCheck_any (B b : Nat) (bs : List Value) (w : World) (h : BldF B b bs w) :
 Calls Tryz.prog 217 #[.pointer (some ⟨b, 0, none⟩)] w fun e w' => e = .returned (.tuple #[]) ∧ (Lib.BuilderAtF 227 5 B b (.pointer (some ⟨b, 0, none⟩)) bs w' ∧ Below B w w' ∧ BldK b w w') := by
 rcases h with h | h
 ·refine (copyCheck_fresh b w h.cell0 h.shape h.frozen0).mono ?_
  rintro e w' ⟨rfl, rfl⟩
  exact ⟨rfl, h.used _, (Below.refl B w).setCell (p := ⟨b, 0, none⟩) h.1 _, (Lib.OthersKept.refl _ _ w).setCell ⟨b, 0, none⟩ rfl _⟩
 ·refine (copyCheck_used b w h.cell0).mono ?_
  rintro e w' ⟨rfl, rfl⟩
  exact ⟨rfl, h, Below.refl B _, Lib.OthersKept.refl _ _ _⟩
set_option maxRecDepth 100000 in
set_option maxHeartbeats 2000000 in
/-- Bytes written behind those that are there. -/
theorem writeString_any (B b : Nat) (bs : List Value) (s : ByteArray) (w : World) (h : BldF B b bs w) (hlen : bs.length + s.size ≤ 100000000000) (hBw : B ≤ w.heap.size) :
 Calls Tryz.prog 151 #[.pointer (some ⟨b, 0, none⟩), .string s] w fun e w' => e = .returned (.tuple #[.int .i64 s.size, .nilIface]) ∧ (BldF B b (bs ++ Lib.strCells s) w' ∧ Below B w w' ∧ BldK b w w') := by
 have hi : ∃ i0, Tryz.prog.info? 5 = some i0 ∧ i0.zero = some (.int .u8 0) ∧ i0.size = 1 ∧ i0.bytes = 1 := info_parts (by kernel_rfl)
 obtain ⟨i0, hi, hz0, hz1, hz2⟩ := hi
 have neB : 227 ≠ 5 := by decide
 go_enter Tryz.func151, Tryz.ntmps151
 go_wp2_with (go_at_call 217; refine (copyCheck_any B b bs _ h).mono ?_)
 rintro e w1 ⟨rfl, h1, hb1, hk1⟩
 obtain ⟨hB, v, hbk, hown, hne⟩ := h1
 have c0 : w1.cell? ⟨b, 0, none⟩ = some (.pointer (some ⟨b, 0, none⟩)) := by rw [Lib.cell_of_heap hbk]; rfl
 have c1 : w1.cell? ⟨b, 1, none⟩ = some v := by rw [Lib.cell_of_heap hbk]; rfl
 go_wp2_with (at_builtin; refine Lib.wpList_append_own_stringF _ rfl _ _ 225 9 rfl B 5 i0 Tryz.underlying225 Tryz.underlying9 hi hz0 hz1 hz2 _ _ _ rfl hown s rfl ?c3 ?c4 ?c5 ?_)
 case c3 => unfold maxLen; omega
 case c4 => omega
 case c5 => have := hb1.size; omega
 intro v' w2 hown' hgrow _
 have hb2 : w2.heap[b]? = some (.cells #[.pointer (some ⟨b, 0, none⟩), v] 227 (0,0)) := by
  rw [hgrow.block b (heap_lt hbk) (fun e => hne e.symm)]
  exact hbk
 have d0 : w2.cell? ⟨b, 0, none⟩ = some (.pointer (some ⟨b, 0, none⟩)) := by rw [Lib.cell_of_heap hb2]; rfl
 have d1 : w2.cell? ⟨b, 1, none⟩ = some v := by rw [Lib.cell_of_heap hb2]; rfl
 have f1 : w2.frozen? ⟨b, 1, none⟩ = false := Lib.frozen_of_heap hb2 1
 obtain ⟨ao, n', cap, rfl⟩ : ∃ ao n' cap, v' = .slice ao n' cap := by
  rcases hown'.2 with ⟨hv, _⟩ | ⟨g, cap, cur, fz, hv, _⟩
  ·exact ⟨_, _, _, hv⟩
  ·exact ⟨_, _, _, hv⟩
 go_wp2
 go_ret2
 refine ⟨rfl, .inr ?_, ?_, (hk1.grown hgrow (Lib.ownsRowF_kind hown)).setCell ⟨b, 1, none⟩ rfl _⟩
 ·exact Lib.BuilderAtF.put (T := 227) (e := 5) hB hb2 (bs' := bs ++ Lib.strCells s) (by simpa [Lib.strCells_length] using hown') neB
 ·exact (hb1.grown hgrow (by have := hb1.size; omega) (fun k hk => (hown.lt k hk).1)).setCell (p := ⟨b, 1, none⟩) hB _
end Go.Proofs.YtehboinleolihaaGreatDoor
namespace Go.Proofs.YtehboinleolihaaGreatDoor
open Go Go.RowKit
set_option maxRecDepth 100000 in
theorem key_any (s : ByteArray) (w : World) (hs : s.size ≤ 1000000000) :
 Calls Tryz.prog 98 #[.string s] w fun e w' => e = .returned (.bool (keyB s)) ∧ Ext w w' := by
 have hK : keyB s = (!s.toList.isEmpty && decide (s.size ≤ 40) && decide (0 ≤ Lib.indexByte smallB.data.toList (s.data.toList.getD 0 0)) && (trimB s).toList.isEmpty) := rfl
 replace hK := Lib.hid hK
 have hI : ∀ b : Bool, inB s.size 1 40 = b → (!s.toList.isEmpty && decide (s.size ≤ 40)) = b := by
  intro b hb
  rw [← hb]
  unfold inB
  cases h0 : s.toList.isEmpty
  ·have hp := (size_toList s).1 h0
   simp only [Bool.not_false, Bool.true_and]
   exact decide_eq_decide.2 (by omega)
  ·have hp : ¬ 0 < s.size := fun h => by rw [(size_toList s).2 h] at h0; cases h0
   simp only [Bool.not_true, Bool.false_and]
   exact (decide_eq_false (by omega)).symm
 cases hl : inB s.size 1 40
 ·have hI := Lib.hid (hI _ hl)
  go_enter Tryz.func98, Tryz.ntmps98
  go_wp2_with (go_at_call 96; refine (in_any _ _ _ _).mono ?_; rintro e w' ⟨rfl, rfl⟩)
  go_ret
  exact ⟨ret_bool (by rw [hK.out, hI.out]; rfl), Ext.refl _⟩
 ·have hb := inB_iff.1 hl
  have hp : 0 < s.size := by omega
  have hg : s.data.toList.getD 0 0 = s[0] := by
   rw [List.getD_eq_getElem?_getD, List.getElem?_eq_getElem (by simpa using hp)]; rfl
  replace hg := Lib.hid hg
  have hI := Lib.hid (hI _ hl)
  cases ht : (trimB s).toList.isEmpty
  all_goals
   go_enter Tryz.func98, Tryz.ntmps98
   go_wp2_with (first
    | (go_at_call 96; refine (in_any _ _ _ _).mono ?_; rintro e w' ⟨rfl, rfl⟩)
    | (go_at_call 181; refine (indexSmall_any _ _).mono ?_; rintro e w' ⟨rfl, rfl⟩)
    | (go_at_call 128; refine (trim_any s _ (by omega)).mono ?_; rintro e w' ⟨rfl, hb⟩))
   go_ret
   refine ⟨ret_bool ?_, by first | exact Ext.refl _ | assumption⟩
   rw [hK.out, hI.out]
   first
    | (rw [hg.out]; simp [*]; done)
    | (simp [*]; done)
    | (rw [hg.out]; simp [*]; omega)
theorem key_is {s : ByteArray} {v : Bool} (h : keyB s = v) (hs : s.size ≤ 1000000000) (w : World) :
 Calls Tryz.prog 98 #[.string s] w fun e w' => e = .returned (.bool v) ∧ Ext w w' := h ▸ key_any s w hs
end Go.Proofs.YtehboinleolihaaGreatDoor
namespace Go.Proofs.YtehboinleolihaaGreatDoor
open Go Go.RowKit
def cmpZ (x y : Int) : Int := if x < y then -1 else if x = y then 0 else 1
set_option maxRecDepth 100000 in
theorem isNaNI_any (x : Int) (w : World) :
 Calls Tryz.prog 188 #[.int .i64 x] w fun e w' => e = .returned (.bool false) ∧ w = w' := by
 go_enter Tryz.func188, Tryz.ntmps188
 go_wp2
 go_ret
 exact ⟨ret_bool (by simp), rfl⟩
set_option maxRecDepth 100000 in
theorem orInt_any (b off cap : Nat) (xs : List Int) (w : World) (hl : xs.length ≤ 1000) (hc : ∀ i, i < xs.length → w.cell? ⟨b, off + i, none⟩ = some (.int .i64 (xs.getD i 0))) :
 Calls Tryz.prog 107 #[.slice (some ⟨b, off, none⟩) xs.length cap] w fun e w' => e = .returned (.int .i64 (orF xs)) ∧ w = w' := by
 have HC := Lib.hid hc; clear hc
 go_enter Tryz.func107, Tryz.ntmps107
 go_wp2
 go_loop [8] (fun i => ∃ k : Nat, k ≤ xs.length ∧ i = .int .i64 k ∧ ZeroTo xs k) (fun i => xs.length - (intOf i).toNat)
 case atStart => exact ⟨0, Nat.zero_le _, rfl, fun j hj => by omega⟩
 case round =>
  obtain ⟨k, hk, rfl, hz⟩ := hrel
  by_cases hlt : k < xs.length
  ·have hcell := HC.out k hlt
   obtain ⟨v, hv⟩ : ∃ v, xs.getD k 0 = v := ⟨_, rfl⟩
   rw [hv] at hcell
   have HV := Lib.hid hv; clear hv
   cases hx : v != 0
   ·go_wp2
    go_round
    case rel => exact ⟨k + 1, by omega, by go_num, hz.succ (by rw [HV.out]; simpa using hx)⟩
    case measure => simp [intOf]; omega
   ·go_wp2
    go_ret
    exact ⟨ret_int (by rw [orF_at xs k hlt hz (by rw [HV.out]; simpa using hx), HV.out]), rfl⟩
  ·go_wp2
   go_ret
   exact ⟨ret_int (orF_zero xs k (by omega) hz).symm, rfl⟩
theorem orInt_blk (g t cap : Nat) (xs : List Int) (w : World) (hl : xs.length ≤ 1000) (hb : Blk w g t (xs.map (Value.int .i64)).toArray) :
 Calls Tryz.prog 107 #[.slice (some ⟨g, 0, none⟩) xs.length cap] w fun e w' => e = .returned (.int .i64 (orF xs)) ∧ w = w' :=
 orInt_any g 0 cap xs w hl fun i hi => by rw [hb.cell]; simp [hi]
end Go.Proofs.YtehboinleolihaaGreatDoor
