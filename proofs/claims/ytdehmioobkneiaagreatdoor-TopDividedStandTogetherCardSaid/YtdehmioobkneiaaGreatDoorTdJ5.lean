/- The name of middle c sharp, by tune. Conditions: none. Keys, by kit. Conditions: the string's size. Keys by the document's text. Conditions: sizes. Comparing plain numbers: the program's 'cmp' functions and the long product. Conditions: ranges as each theorem says. Parts: keys by the document's text; whether a name is there already. Conditions: sizes. -/
import Derived.Test.YtdehmioobkneiaaGreatDoorTdJ1
import Derived.Test.YtdehmioobkneiaaGreatDoorTdShelf
import Derived.Deep.Light
import Derived.Shelf.Strings.SlTrimAscii
import Derived.WalkLawsBesides
import Derived.Outline
import Derived.Test.YtdehmioobkneiaaGreatDoorTdJ2
import Derived.Shelf.SlicesQ.IndexFunc
import Derived.Ground.SlgfProg
set_option linter.unusedSimpArgs false
set_option linter.unusedVariables false
namespace Go.Proofs.YtdehmioobkneiaaGreatDoor
open Go Go.RowKit
def nameCells : Array Value := #[.string ⟨#[99]⟩, .string ⟨#[99, 35]⟩, .string ⟨#[100]⟩, .string ⟨#[100, 35]⟩, .string ⟨#[101]⟩, .string ⟨#[102]⟩, .string ⟨#[102, 35]⟩, .string ⟨#[103]⟩, .string ⟨#[103, 35]⟩, .string ⟨#[97]⟩, .string ⟨#[97, 35]⟩, .string ⟨#[98]⟩]
set_option maxRecDepth 100000 in
theorem names_any (w : World) :
    Calls Tryz.prog 75 #[] w fun e w' => e = .returned (.slice (some ⟨w.heap.size, 0, none⟩) 12 12) ∧ w' = w.alloc (.cells nameCells 9) := by
  go_enter Tryz.func75, Tryz.ntmps75
  go_wp2
  go_ret
  exact ⟨rfl, rfl⟩
theorem itoa4_any (w : World) :
    Calls Tryz.prog 76 #[.int .i64 4] w fun e w' => e = .returned (.string ⟨#[52]⟩) ∧ w = w' :=
  (Tryz.strconv_Itoa_small 4 (by omega) w).mono fun e w' h => ⟨h.1.trans (by kernel_rfl), h.2.symm⟩
set_option maxRecDepth 100000 in
theorem name61_any (w : World) :
    Calls Tryz.prog 32 #[.int .i64 61] w fun e w' => e = .returned (.tuple #[.string ⟨#[99, 35, 52]⟩, .int .i64 0]) ∧ Ext w w' := by
  have hO : outB 61 0 127 = false := by decide
  go_enter Tryz.func32, Tryz.ntmps32
  go_wp2_with (go_at_call 42; refine (outside_any 61 0 127 _).mono ?_; rintro e w' ⟨rfl, rfl⟩)
  refine wp_region_forks [1, 2, 5, 6, 7] 7 (fun w' => Ext w w') Ext (by kernel_rfl) (by kernel_rfl) Ext.refl (fun _ _ _ => Ext.trans) (fun _ _ h he => h.trans he) (by (repeat (with_reducible first | assumption | exact Blk.new' (by simp) | refine Blk.drew ?_ | refine Blk.alloc ?_ _ | exact Ext.refl _ | refine Ext.drew ?_ | refine Ext.alloc ?_ _))) ?_
  repeat
    first
      | (refine q_quiet rfl rfl (fun _ _ _ _ h => h) ?_
         apply Exists.intro
         refine ⟨fun w' hw' => ?_, ?_⟩
         · obtain hH0 := hw'
           skip
           simp [go_sem, quietTo, World.cell?, Ext.refl, ↓IntWalk.iteOmega]
           first
             | rfl
         simp only [Act.put, sIA, sCS, sCZ])
      | (refine q_skip rfl rfl (fun _ _ _ _ h => h) ?_
         simp only [Act.put, sIA, sCS, sCZ])
  refine q_nil ?_
  try simp only [List.length_cons, List.length_nil, Nat.reduceAdd, Array.replicate_succ, Array.replicate_zero, List.push_toArray, List.nil_append, List.cons_append, sIA, sCS, sCZ]
  refine ww_one (i := 0) rfl rfl (by kernel_rfl) ?_
  intro w1 e1 h1 K1 hK1
  go_wp2_with (go_at_call 75; refine (names_any _).mono ?_; rintro e w2 ⟨rfl, rfl⟩)
  refine ⟨h1.alloc _, ?_⟩
  simp only [sIA, sCS, sCZ]
  refine ww_quiet [3, 4, 8, 9, 10, 11] 0 (fun w' => Blk w' w1.heap.size 9 nameCells ∧ Ext w w') rfl (by kernel_rfl) (by kernel_rfl) Ext.refl (fun _ _ _ => Ext.trans) (fun _ _ h he => ⟨h.1.ext he, h.2.trans he⟩) ⟨(by (repeat (with_reducible first | assumption | exact Blk.new' (by simp) | refine Blk.drew ?_ | refine Blk.alloc ?_ _ | exact Ext.refl _ | refine Ext.drew ?_ | refine Ext.alloc ?_ _))), (by (repeat (with_reducible first | assumption | exact Blk.new' (by simp) | refine Blk.drew ?_ | refine Blk.alloc ?_ _ | exact Ext.refl _ | refine Ext.drew ?_ | refine Ext.alloc ?_ _)))⟩ (fun _ h => h.2) ?_
  repeat
    first
      | (refine q_quiet rfl rfl (fun _ _ _ _ h => h) ?_
         apply Exists.intro
         refine ⟨fun w' hw' => ?_, ?_⟩
         · obtain ⟨hH20, hH21⟩ := hw'
           unfold Blk at hH20
           simp [go_sem, quietTo, World.cell?, hH20, Ext.refl, ↓IntWalk.iteOmega, nameCells]
           first
             | rfl
             | (exact (itoa4_any _).mono fun _ _ h => ⟨h.1, h.2 ▸ Ext.refl _⟩)
         simp only [Act.put, sIA, sCS, sCZ])
      | (refine q_skip rfl rfl (fun _ _ _ _ h => h) ?_
         simp only [Act.put, sIA, sCS, sCZ])
  refine q_nil ?_
  try simp only [List.length_cons, List.length_nil, Nat.reduceAdd, Array.replicate_succ, Array.replicate_zero, List.push_toArray, List.nil_append, List.cons_append, sIA, sCS, sCZ]
  refine ww_done (by kernel_rfl) fun w8 e8 h8 => ?_
  have he8 := h8.2
  dsimp only [Exit.then]
  go_wp2
  go_light
  exact bodyPost_ret (v := .tuple #[.string ⟨#[99, 35, 52]⟩, .int .i64 0]) (by simp [results, Tryz.results32, go_sem, *]; try rfl) rfl ⟨rfl, (by (repeat (with_reducible first | assumption | exact Ext.refl _ | refine Ext.drew ?_ | refine Ext.alloc ?_ _ | refine Ext.setCell ?_ (by simp <;> omega) _ | refine Ext.trans ?_ (by assumption))))⟩
end Go.Proofs.YtdehmioobkneiaaGreatDoor
namespace Go.Proofs.YtdehmioobkneiaaGreatDoor
open Go Go.RowKit
def smallB : ByteArray := ⟨#[97, 98, 99, 100, 101, 102, 103, 104, 105, 106, 107, 108, 109, 110, 111, 112, 113, 114, 115, 116, 117, 118, 119, 120, 121, 122]⟩
def keysB : ByteArray := ⟨#[97, 98, 99, 100, 101, 102, 103, 104, 105, 106, 107, 108, 109, 110, 111, 112, 113, 114, 115, 116, 117, 118, 119, 120, 121, 122, 48, 49, 50, 51, 52, 53, 54, 55, 56, 57, 45, 95]⟩
def trimB (s : ByteArray) : ByteArray := ⟨(Lib.trimS s.data.toList keysB.data.toList).toArray⟩
/-- A key: 1 to 40 bytes, a small letter first, small letters, digits, - and _. -/
def keyB (s : ByteArray) : Bool := !s.toList.isEmpty && decide (s.size ≤ 40) && decide (0 ≤ Lib.indexByte smallB.data.toList (s.data.toList.getD 0 0)) && (trimB s).toList.isEmpty
theorem size_toList (s : ByteArray) : s.toList.isEmpty = false ↔ 0 < s.size := by
  have h1 : s.toList = s.data.toList := Lib.toList_data s
  have h2 : s.size = s.data.size := rfl
  rw [h1, h2]
  cases hd : s.data.toList with
  | nil =>
    have : s.data.size = 0 := by rw [← Array.length_toList, hd]; rfl
    simp [this]
  | cons x l =>
    have : s.data.size = l.length + 1 := by rw [← Array.length_toList, hd]; rfl
    simp [this]
theorem trim_any (s : ByteArray) (w : World) (hs : s.size ≤ 9223372036854775807) :
    Calls Tryz.prog 107 #[.string s, .string ⟨#[97, 98, 99, 100, 101, 102, 103, 104, 105, 106, 107, 108, 109, 110, 111, 112, 113, 114, 115, 116, 117, 118, 119, 120, 121, 122, 48, 49, 50, 51, 52, 53, 54, 55, 56, 57, 45, 95]⟩] w fun e w' => e = .returned (.string (trimB s)) ∧ Ext w w' :=
  Any.strings_Trim_laid Tryz.lays160 (by kernel_rfl) s keysB w hs (by decide) (ascii_of_all (by decide))
theorem indexSmall_any (c : Int) (w : World) :
    Calls Tryz.prog 108 #[.string ⟨#[97, 98, 99, 100, 101, 102, 103, 104, 105, 106, 107, 108, 109, 110, 111, 112, 113, 114, 115, 116, 117, 118, 119, 120, 121, 122]⟩, .int .u8 c] w fun e w' => e = .returned (.int .i64 (Lib.indexByte smallB.data.toList c.toNat.toUInt8)) ∧ w = w' :=
  (Tryz.strings_IndexByte smallB c w).mono fun e w' h => ⟨h.1, h.2.symm⟩
set_option maxRecDepth 100000 in
theorem isKey_any (s : ByteArray) (w : World) (hs : s.size ≤ 9223372036854775807) :
    Calls Tryz.prog 80 #[.string s] w fun e w' => e = .returned (.bool (keyB s)) ∧ Ext w w' := by
  have hK : keyB s = (!s.toList.isEmpty && decide (s.size ≤ 40) && decide (0 ≤ Lib.indexByte smallB.data.toList (s.data.toList.getD 0 0)) && (trimB s).toList.isEmpty) := rfl
  replace hK := Lib.hid hK
  cases h0 : s.toList.isEmpty
  case' false =>
    have hp := (size_toList s).1 h0
    have hg : s.data.toList.getD 0 0 = s[0] := by
      rw [List.getD_eq_getElem?_getD, List.getElem?_eq_getElem (by simpa using hp)]; rfl
    replace hg := Lib.hid hg
  all_goals
    go_enter Tryz.func80, Tryz.ntmps80
    go_wp2_with (first
      | (go_at_call 108; refine (indexSmall_any _ _).mono ?_; rintro e w' ⟨rfl, rfl⟩)
      | (go_at_call 107; refine (trim_any s _ hs).mono ?_; rintro e w' ⟨rfl, hb⟩))
  all_goals
    go_ret
    refine ⟨ret_bool ?_, by first | exact Ext.refl _ | assumption⟩
    rw [hK.out]
    first
      | (rw [hg.out]; simp [*]; done)
      | (simp [*]; done)
      | (rw [hg.out]; simp [*]; omega)
theorem isKey_is {s : ByteArray} {v : Bool} (h : keyB s = v) (hs : s.size ≤ 1000000000) (w : World) :
    Calls Tryz.prog 80 #[.string s] w fun e w' => e = .returned (.bool v) ∧ Ext w w' := h ▸ isKey_any s w (by omega)
end Go.Proofs.YtdehmioobkneiaaGreatDoor
namespace Go.Proofs.YtdehmioobkneiaaGreatDoor
open Go Go.RowKit
set_option maxRecDepth 100000 in
theorem key_any (s : ByteArray) (w : World) (hs : s.size ≤ 1000000000) :
    Calls Tryz.prog 67 #[.string s] w fun e w' => e = .returned (.bool (keyB s)) ∧ Ext w w' := by
  have hK : keyB s = (!s.toList.isEmpty && decide (s.size ≤ 40) && decide (0 ≤ Lib.indexByte smallB.data.toList (s.data.toList.getD 0 0)) && (trimB s).toList.isEmpty) := rfl
  replace hK := Lib.hid hK
  have hI : ∀ b : Bool, inB s.size 1 40 = b → (!s.toList.isEmpty && decide (s.size ≤ 40)) = b := by
    intro b hb
    rw [← hb]
    unfold inB
    cases h0 : s.toList.isEmpty
    · have hp := (size_toList s).1 h0
      simp only [Bool.not_false, Bool.true_and]
      exact decide_eq_decide.2 (by omega)
    · have hp : ¬ 0 < s.size := fun h => by rw [(size_toList s).2 h] at h0; cases h0
      simp only [Bool.not_true, Bool.false_and]
      exact (decide_eq_false (by omega)).symm
  cases hl : inB s.size 1 40
  · have hI := Lib.hid (hI _ hl)
    go_enter Tryz.func67, Tryz.ntmps67
    go_wp2_with (go_at_call 73; refine (in_any _ _ _ _).mono ?_; rintro e w' ⟨rfl, rfl⟩)
    go_ret
    exact ⟨ret_bool (by rw [hK.out, hI.out]; rfl), Ext.refl _⟩
  · have hb := inB_iff.1 hl
    have hp : 0 < s.size := by omega
    have hg : s.data.toList.getD 0 0 = s[0] := by
      rw [List.getD_eq_getElem?_getD, List.getElem?_eq_getElem (by simpa using hp)]; rfl
    replace hg := Lib.hid hg
    have hI := Lib.hid (hI _ hl)
    cases ht : (trimB s).toList.isEmpty
    all_goals
      go_enter Tryz.func67, Tryz.ntmps67
      go_wp2_with (first
        | (go_at_call 73; refine (in_any _ _ _ _).mono ?_; rintro e w' ⟨rfl, rfl⟩)
        | (go_at_call 108; refine (indexSmall_any _ _).mono ?_; rintro e w' ⟨rfl, rfl⟩)
        | (go_at_call 107; refine (trim_any s _ (by omega)).mono ?_; rintro e w' ⟨rfl, hb⟩))
      go_ret
      refine ⟨ret_bool ?_, by first | exact Ext.refl _ | assumption⟩
      rw [hK.out, hI.out]
      first
        | (rw [hg.out]; simp [*]; done)
        | (simp [*]; done)
        | (rw [hg.out]; simp [*]; omega)
theorem key_is {s : ByteArray} {v : Bool} (h : keyB s = v) (hs : s.size ≤ 1000000000) (w : World) :
    Calls Tryz.prog 67 #[.string s] w fun e w' => e = .returned (.bool v) ∧ Ext w w' := h ▸ key_any s w hs
end Go.Proofs.YtdehmioobkneiaaGreatDoor
namespace Go.Proofs.YtdehmioobkneiaaGreatDoor
open Go Go.RowKit
def cmpZ (x y : Int) : Int := if x < y then -1 else if x = y then 0 else 1
set_option maxRecDepth 100000 in
theorem isNaNI_any (x : Int) (w : World) :
    Calls Tryz.prog 96 #[.int .i64 x] w fun e w' => e = .returned (.bool false) ∧ w = w' := by
  go_enter Tryz.func96, Tryz.ntmps96
  go_wp2
  go_ret
  exact ⟨ret_bool (by simp), rfl⟩
set_option maxRecDepth 100000 in
theorem orInt_any (b off cap : Nat) (xs : List Int) (w : World) (hl : xs.length ≤ 1000) (hc : ∀ i, i < xs.length → w.cell? ⟨b, off + i, none⟩ = some (.int .i64 (xs.getD i 0))) :
    Calls Tryz.prog 54 #[.slice (some ⟨b, off, none⟩) xs.length cap] w fun e w' => e = .returned (.int .i64 (orF xs)) ∧ w = w' := by
  have HC := Lib.hid hc; clear hc
  go_enter Tryz.func54, Tryz.ntmps54
  go_wp2
  go_loop [8] (fun i => ∃ k : Nat, k ≤ xs.length ∧ i = .int .i64 k ∧ ZeroTo xs k) (fun i => xs.length - (intOf i).toNat)
  case atStart => exact ⟨0, Nat.zero_le _, rfl, fun j hj => by omega⟩
  case round =>
    obtain ⟨k, hk, rfl, hz⟩ := hrel
    by_cases hlt : k < xs.length
    · have hcell := HC.out k hlt
      obtain ⟨v, hv⟩ : ∃ v, xs.getD k 0 = v := ⟨_, rfl⟩
      rw [hv] at hcell
      have HV := Lib.hid hv; clear hv
      cases hx : v != 0
      · go_wp2
        go_round
        case rel => exact ⟨k + 1, by omega, by go_num, hz.succ (by rw [HV.out]; simpa using hx)⟩
        case measure => simp [intOf]; omega
      · go_wp2
        go_ret
        exact ⟨ret_int (by rw [orF_at xs k hlt hz (by rw [HV.out]; simpa using hx), HV.out]), rfl⟩
    · go_wp2
      go_ret
      exact ⟨ret_int (orF_zero xs k (by omega) hz).symm, rfl⟩
theorem orInt_blk (g t cap : Nat) (xs : List Int) (w : World) (hl : xs.length ≤ 1000) (hb : Blk w g t (xs.map (Value.int .i64)).toArray) :
    Calls Tryz.prog 54 #[.slice (some ⟨g, 0, none⟩) xs.length cap] w fun e w' => e = .returned (.int .i64 (orF xs)) ∧ w = w' :=
  orInt_any g 0 cap xs w hl fun i hi => by rw [hb.cell]; simp [hi]
end Go.Proofs.YtdehmioobkneiaaGreatDoor
namespace Go.Proofs.YtdehmioobkneiaaGreatDoor
open Go Go.RowKit
set_option maxRecDepth 100000 in
theorem rangeRight_any (lo hi : Int) (w : World) :
    Calls Tryz.prog 69 #[.agg #[.int .i64 lo, .int .i64 hi]] w fun e w' => e = .returned (.bool (rightR lo hi)) ∧ Ext w w' := by
  have hR : rightR lo hi = (inB lo 0 hi && decide (hi ≤ 127)) := by unfold rightR; rw [outB_inB]; simp
  replace hR := Lib.hid hR
  cases ho : inB lo 0 hi
  all_goals
    go_enter Tryz.func69, Tryz.ntmps69
    go_wp2_with (go_at_call 73; refine (in_any _ _ _ _).mono ?_; rintro e w' ⟨rfl, rfl⟩)
    go_ret
    exact ⟨ret_bool (by rw [hR.out]; simp [*]), by (repeat (with_reducible first | assumption | exact Ext.refl _ | refine Ext.drew ?_ | refine Ext.alloc ?_ _ | refine Ext.setCell ?_ (by simp <;> omega) _ | refine Ext.trans ?_ (by assumption)))⟩
structure PartV where
  name : ByteArray
  lo : Int
  hi : Int
  least : Int
  most : Int
instance : Inhabited PartV := ⟨⟨⟨#[]⟩, 0, 0, 0, 0⟩⟩
def partC (x : PartV) : List Value := [.string x.name, .int .i64 x.lo, .int .i64 x.hi, .int .i64 x.least, .int .i64 x.most]
theorem partC_len (x : PartV) : (partC x).length = 5 := rfl
theorem part_one (x : PartV) : ∀ u ∈ partC x, u.oneCell' = true := by simp [partC, Value.oneCell']
theorem Elems.part {w : World} {b off : Nat} {xs : List PartV} (h : Elems 5 partC w b off xs) {i : Nat} {x : PartV} (hx : xs[i]? = some x) :
    w.cell? ⟨b, off + i * 5, none⟩ = some (.string x.name) ∧ w.cell? ⟨b, off + i * 5 + 1, none⟩ = some (.int .i64 x.lo) ∧ w.cell? ⟨b, off + i * 5 + 2, none⟩ = some (.int .i64 x.hi) ∧ w.cell? ⟨b, off + i * 5 + 3, none⟩ = some (.int .i64 x.least) ∧ w.cell? ⟨b, off + i * 5 + 4, none⟩ = some (.int .i64 x.most) :=
  ⟨h i x hx 0 _ rfl, h i x hx 1 _ rfl, h i x hx 2 _ rfl, h i x hx 3 _ rfl, h i x hx 4 _ rfl⟩
/-- Whether a name is one of the first n. -/
def nameIn (xs : List PartV) (n : Nat) (s : ByteArray) : Bool := (xs.take n).any fun y => y.name.toList == s.toList
set_option maxRecDepth 100000 in
theorem checkPred (x : PartV) (B : Nat) (w : World) (hB : Blk w B 46 (partC x).toArray) :
    PredBelow Tryz.prog 91 #[.pointer (some ⟨B, 0, none⟩)] (fun y => .agg (partC y).toArray) (fun y => y.name.toList == x.name.toList) w := fun W y hb => by
  have hc : W.cell? ⟨B, 0, none⟩ = some (.string x.name) := (hb.cell (p := ⟨B, 0, none⟩) hB.lt).trans (hB.cell 0)
  have hBW : B < W.heap.size := Nat.lt_of_lt_of_le hB.lt hb.size
  have hne : B ≠ W.heap.size := by omega
  clear hB
  show Calls Tryz.prog 91 #[.agg #[.string y.name, .int .i64 y.lo, .int .i64 y.hi, .int .i64 y.least, .int .i64 y.most], .pointer (some ⟨B, 0, none⟩)] W _
  go_enter Tryz.func91, Tryz.ntmps91
  go_wp2
  go_ret
  exact ⟨rfl, hb.alloc hb.size _⟩
theorem checkHas (x : PartV) (B b off n c : Nat) (xs : List PartV) (w : World) (hB : Blk w B 46 (partC x).toArray) (hn : n ≤ xs.length) (hl : xs.length ≤ 1000) (hb : b < w.heap.size) (hE : Elems 5 partC w b off xs) :
    Calls Tryz.prog 71 #[.slice (some ⟨b, off, none⟩) n c, .func (.func 91) #[] #[.pointer (some ⟨B, 0, none⟩)]] w fun e w' => e = .returned (.bool (nameIn xs n x.name)) ∧ Ext w w' := by
  have eg : ∀ args w, (callFunc 91 args).run Tryz.prog w = .ok (.enter 91 args) w := enters_of Tryz.func91 (by kernel_rfl) rfl
  exact AnyQ.slices_ContainsFunc Tryz.lqcPart 5 Tryz.isAgg46 Tryz.sizeOf46 partC partC_len (fun y => y.name.toList == x.name.toList) 91 #[.pointer (some ⟨B, 0, none⟩)] eg b off n c xs w
    (checkPred x B w hB) hn (by omega) hb (fun j hj i v hi => hE j _ (by rw [List.getElem?_eq_getElem hj, getElem!_pos xs j hj]) i v hi)
set_option maxRecDepth 100000 in
theorem faultPred (x : PartV) (B : Nat) (w : World) (hB : Blk w B 46 (partC x).toArray) :
    PredBelow Tryz.prog 72 #[.pointer (some ⟨B, 0, none⟩)] (fun y => .agg (partC y).toArray) (fun y => y.name.toList == x.name.toList) w := fun W y hb => by
  have hc : W.cell? ⟨B, 0, none⟩ = some (.string x.name) := (hb.cell (p := ⟨B, 0, none⟩) hB.lt).trans (hB.cell 0)
  have hBW : B < W.heap.size := Nat.lt_of_lt_of_le hB.lt hb.size
  have hne : B ≠ W.heap.size := by omega
  clear hB
  show Calls Tryz.prog 72 #[.agg #[.string y.name, .int .i64 y.lo, .int .i64 y.hi, .int .i64 y.least, .int .i64 y.most], .pointer (some ⟨B, 0, none⟩)] W _
  go_enter Tryz.func72, Tryz.ntmps72
  go_wp2
  go_ret
  exact ⟨rfl, hb.alloc hb.size _⟩
theorem faultHas (x : PartV) (B b off n c : Nat) (xs : List PartV) (w : World) (hB : Blk w B 46 (partC x).toArray) (hn : n ≤ xs.length) (hl : xs.length ≤ 1000) (hb : b < w.heap.size) (hE : Elems 5 partC w b off xs) :
    Calls Tryz.prog 71 #[.slice (some ⟨b, off, none⟩) n c, .func (.func 72) #[] #[.pointer (some ⟨B, 0, none⟩)]] w fun e w' => e = .returned (.bool (nameIn xs n x.name)) ∧ Ext w w' := by
  have eg : ∀ args w, (callFunc 72 args).run Tryz.prog w = .ok (.enter 72 args) w := enters_of Tryz.func72 (by kernel_rfl) rfl
  exact AnyQ.slices_ContainsFunc Tryz.lqcPart 5 Tryz.isAgg46 Tryz.sizeOf46 partC partC_len (fun y => y.name.toList == x.name.toList) 72 #[.pointer (some ⟨B, 0, none⟩)] eg b off n c xs w
    (faultPred x B w hB) hn (by omega) hb (fun j hj i v hi => hE j _ (by rw [List.getElem?_eq_getElem hj, getElem!_pos xs j hj]) i v hi)
end Go.Proofs.YtdehmioobkneiaaGreatDoor
