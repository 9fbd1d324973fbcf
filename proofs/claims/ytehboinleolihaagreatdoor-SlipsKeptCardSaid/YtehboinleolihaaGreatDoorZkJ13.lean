/- Lines, words and numbers of a text, by kit; a text that is written. MaxL: the variable internal/bytealg.MaxLen holds some number. Conditions: as each theorem says. A text, line by line, as the document reads it: plain. Conditions: as each theorem says. -/
import Derived.Test.YtehboinleolihaaGreatDoorZkJ10
import Derived.Test.YtehboinleolihaaGreatDoorZkJ6
import Derived.Test.YtehboinleolihaaGreatDoorZkJ4
import Derived.Test.YtehboinleolihaaGreatDoorZkJ11
import Derived.Shelf.GgClosure.Gives
set_option linter.unusedSimpArgs false
set_option linter.unusedVariables false
namespace Go.Proofs.YtehboinleolihaaGreatDoor
open Go Go.RowKit
/-- The variable that strings.Split looks at holds some number; it lies ahead of block B. -/
def MaxL (B : Nat) (w : World) : Prop := 0 < B ∧ B ≤ w.heap.size ∧ ∃ m : Int, w.cell? ⟨0,0, none⟩ = some (.int .i64 m)
theorem MaxL.ext {B : Nat} {w w' : World} (h : MaxL B w) (he : Ext w w') : MaxL B w' := by
 obtain ⟨h1, h2, m, hm⟩ := h
 obtain ⟨hc, -, -⟩ := he.walk
 exact ⟨h1, Nat.le_trans h2 he.size, m, (hc _ _ (Nat.lt_of_lt_of_le h1 h2)).trans hm⟩
theorem MaxL.extS {B s : Nat} {w w' : World} (h : MaxL B w) (hs : B ≤ s) (he : ExtS s w w') : MaxL B w' := by
 obtain ⟨h1, h2, m, hm⟩ := h
 exact ⟨h1, Nat.le_trans h2 he.2.2.2.1, m, (he.cell (Nat.lt_of_lt_of_le h1 h2) (by omega) 0).trans hm⟩
theorem split_any (c : UInt8) (s : ByteArray) (B : Nat) (w : World) (hs : s.size ≤ 1000000000) (hm : MaxL B w) :
 Calls Tryz.prog 162 #[.string s, .string ⟨#[c]⟩] w fun e w' => e = .returned (.slice (some ⟨w.heap.size, 0, none⟩) (splitW c s.data.toList).length (splitW c s.data.toList).length) ∧ w' = w.alloc (.cells ((splitW c s.data.toList).map Value.string).toArray 9) := by
 obtain ⟨-, -, m, hm⟩ := hm
 have h := Tryz.strings_Split s ⟨#[c]⟩ m w (by omega) hm (Nat.le_refl 1)
 rw [splitB_is, splitW_len] at h
 exact h
theorem cell_of_row {w : World} {g : Nat} {e : TypeId} {W : List ByteArray} (h : Blk w g e (W.map Value.string).toArray) {j : Nat} {x : ByteArray} (hx : W[j]? = some x) : w.cell? ⟨g, j, none⟩ = some (.string x) := by
 rw [h.cell]
 simp [hx]
set_option maxRecDepth 100000 in
set_option maxHeartbeats 1600000 in
theorem words_good (s : ByteArray) (B : Nat) (w : World) (hs : s.size ≤ 1000000000) (hm : MaxL B w) (hw : ∀ x ∈ wordsL s.data.toList, x ≠ ⟨#[]⟩) :
 Calls Tryz.prog 220 #[.string s] w fun e w' => e = .returned (.tuple #[.slice (some ⟨w.heap.size, 0, none⟩) (wordsL s.data.toList).length (wordsL s.data.toList).length, .bool true]) ∧ w' = w.alloc (.cells ((wordsL s.data.toList).map Value.string).toArray 9) := by
 have hsp := split_any 32 s B w hs hm
 have hmo := splitW_most 32 s.data.toList
 have hsz : s.data.toList.length = s.size := Array.length_toList
 have hB := Blk.new' (w := w) (t := 9) (cs := ((wordsL s.data.toList).map Value.string).toArray) rfl
 change (wordsL s.data.toList).length ≤ _ at hmo
 rw [hsz] at hmo
 rw [show splitW 32 s.data.toList = wordsL s.data.toList from rfl] at hsp
 generalize wordsL s.data.toList = W at *
 have hlW : W.length ≤ 1000000001 := by omega
 replace hsp := Lib.hid hsp; replace hB := Lib.hid hB; clear hmo hsz hm
 go_enter Tryz.func220, Tryz.ntmps220
 go_wp2_with (go_at_call 162; (with_reducible refine Calls.mono hsp.out ?_); rintro e w1 ⟨rfl, rfl⟩)
 go_loop [11] (fun i => ∃ k : Nat, k ≤ W.length ∧ i = .int .i64 k) (fun i => W.length - (intOf i).toNat)
 case atStart => exact ⟨0, Nat.zero_le _, rfl⟩
 case round =>
  obtain ⟨k, hk, rfl⟩ := hrel
  by_cases hlt : k < W.length
  ·obtain ⟨x, hx⟩ := getD_some (rfl : W.length = W.length) hlt
   have c0 := cell_of_row hB.out hx
   obtain ⟨g1, g2⟩ := ba_empty (hw x (List.mem_of_getElem? hx))
   have hkI : (k : Int) < W.length := by omega
   clear hx
   go_wp2
   go_round
   case rel => exact ⟨k + 1, by omega, by go_num⟩
   case measure => simp [intOf]; omega
  ·obtain rfl : k = W.length := by omega
   go_wp2
   go_ret2
   exact ⟨rfl, rfl⟩
set_option maxRecDepth 100000 in
set_option maxHeartbeats 1600000 in
theorem words_bad (s : ByteArray) (B : Nat) (w : World) (hs : s.size ≤ 1000000000) (hm : MaxL B w) (hw : ∃ x ∈ wordsL s.data.toList, x = ⟨#[]⟩) :
 Calls Tryz.prog 220 #[.string s] w fun e w' => e = .returned (.tuple #[.slice none 0 0, .bool false]) ∧ Ext w w' := by
 have hsp := split_any 32 s B w hs hm
 have hmo := splitW_most 32 s.data.toList
 have hsz : s.data.toList.length = s.size := Array.length_toList
 have hB := Blk.new' (w := w) (t := 9) (cs := ((wordsL s.data.toList).map Value.string).toArray) rfl
 change (wordsL s.data.toList).length ≤ _ at hmo
 rw [hsz] at hmo
 rw [show splitW 32 s.data.toList = wordsL s.data.toList from rfl] at hsp
 generalize wordsL s.data.toList = W at *
 have hlW : W.length ≤ 1000000001 := by omega
 replace hsp := Lib.hid hsp; replace hB := Lib.hid hB; replace hw := Lib.hid hw; clear hmo hsz hm
 go_enter Tryz.func220, Tryz.ntmps220
 go_wp2_with (go_at_call 162; (with_reducible refine Calls.mono hsp.out ?_); rintro e w1 ⟨rfl, rfl⟩)
 go_loop [11] (fun i => ∃ k : Nat, k ≤ W.length ∧ i = .int .i64 k ∧ ∀ j x, j < k → W[j]? = some x → ¬ x = ⟨#[]⟩) (fun i => W.length - (intOf i).toNat)
 case atStart => exact ⟨0, Nat.zero_le _, rfl, fun j x hj => by omega⟩
 case round =>
  obtain ⟨k, hk, rfl, hz⟩ := hrel
  by_cases hlt : k < W.length
  ·obtain ⟨x, hx⟩ := getD_some (rfl : W.length = W.length) hlt
   have c0 := cell_of_row hB.out hx
   have hkI : (k : Int) < W.length := by omega
   by_cases h0 : x = ⟨#[]⟩
   ·subst h0
    clear hx hz
    go_wp2
    go_ret2
    exact ⟨rfl, (Ext.refl _).alloc _⟩
   ·obtain ⟨g1, g2⟩ := ba_empty h0
    have hz2 : ∀ j y, j < k + 1 → W[j]? = some y → ¬ y = ⟨#[]⟩ := fun j y hj hy => by
     rcases Nat.lt_or_ge j k with h | h
     ·exact hz j y h hy
     ·obtain rfl : j = k := by omega
      rw [hx] at hy
      cases hy
      exact h0
    replace hz2 := Lib.hid hz2; clear hx hz h0
    go_wp2
    go_round
    case rel => exact ⟨k + 1, by omega, by go_num, hz2.out⟩
    case measure => simp [intOf]; omega
  ·exfalso
   obtain ⟨x, hx, e⟩ := hw.out
   obtain ⟨j, hj, rfl⟩ := List.getElem_of_mem hx
   exact hz j _ (by omega) (List.getElem?_eq_getElem hj) e
set_option maxRecDepth 100000 in
theorem lines_nil (w : World) :
 Calls Tryz.prog 158 #[.string ⟨#[]⟩] w fun e w' => e = .returned (.tuple #[.slice none 0 0, .bool true]) ∧ Ext w w' := by
 go_enter Tryz.func158, Tryz.ntmps158
 go_wp2
 go_ret2
 exact ⟨rfl, Ext.refl _⟩
/-- The lines of a text that is not empty. -/
def linesW (s : List UInt8) : List ByteArray := splitW 10 (Lib.trimSuffix s [10])
set_option maxRecDepth 100000 in
set_option maxHeartbeats 1600000 in
theorem lines_some (s : ByteArray) (B : Nat) (w : World) (hs : s.size ≤ 1000000000) (hm : MaxL B w) (h0 : ¬ s = ⟨#[]⟩) :
 Calls Tryz.prog 158 #[.string s] w fun e w' => e = .returned (.tuple #[.slice (some ⟨w.heap.size, 0, none⟩) (linesW s.data.toList).length (linesW s.data.toList).length, .bool (Lib.hasSuffix s.data.toList [10])]) ∧ w' = w.alloc (.cells ((linesW s.data.toList).map Value.string).toArray 9) := by
 obtain ⟨g1, g2⟩ := ba_empty h0
 have hcs : Calls Tryz.prog 219 #[.string s, .string ⟨#[10]⟩] w _ := Tryz.strings_CutSuffix s ⟨#[10]⟩ w (by omega)
 have htl : (Lib.trimSuffix s.data.toList [10]).length ≤ s.size := by
  have : s.data.toList.length = s.size := Array.length_toList
  unfold Lib.trimSuffix
  split
  ·rw [List.length_take]; omega
  ·omega
 have hsp := split_any 10 ⟨(Lib.trimSuffix s.data.toList [10]).toArray⟩ B w (by show (Lib.trimSuffix s.data.toList [10]).toArray.size ≤ _; simp; omega) hm
 change Calls _ _ _ _ fun e w' => e = .returned (.slice (some ⟨w.heap.size, 0, none⟩) (linesW s.data.toList).length (linesW s.data.toList).length) ∧ w' = w.alloc (.cells ((linesW s.data.toList).map Value.string).toArray 9) at hsp
 change Calls _ _ _ _ fun e w' => e = .returned (.tuple #[.string ⟨(Lib.trimSuffix s.data.toList [10]).toArray⟩, .bool (Lib.hasSuffix s.data.toList [10])]) ∧ w' = w at hcs
 generalize linesW s.data.toList = W at *
 generalize (Lib.trimSuffix s.data.toList [10]).toArray = T at *
 generalize Lib.hasSuffix s.data.toList [10] = E at *
 replace hsp := Lib.hid hsp; replace hcs := Lib.hid hcs; clear htl hm h0
 go_enter Tryz.func158, Tryz.ntmps158
 go_wp2_with (first
  | (go_at_call 219; (with_reducible refine Calls.mono hcs.out ?_); rintro e w1 ⟨rfl, rfl⟩)
  | (go_at_call 162; (with_reducible refine Calls.mono hsp.out ?_); rintro e w1 ⟨rfl, rfl⟩))
 go_ret2
 exact ⟨rfl, rfl⟩
theorem lines_uni (s : ByteArray) (B : Nat) (w : World) (hs : s.size ≤ 1000000000) (hm : MaxL B w) :
 Calls Tryz.prog 158 #[.string s] w fun e w' => ∃ p : Option Addr, e = .returned (.tuple #[.slice p (linesB s.data.toList).length (linesB s.data.toList).length, .bool (endedF s.data.toList)]) ∧ Ext w w' ∧ (0 < (linesB s.data.toList).length → p = some ⟨w.heap.size, 0, none⟩ ∧ Blk w' w.heap.size 9 ((linesB s.data.toList).map Value.string).toArray) := by
 by_cases h0 : s = ⟨#[]⟩
 ·subst h0
  exact (lines_nil w).mono fun e w' h => ⟨none, h.1, h.2, fun h => absurd h (by decide)⟩
 ·have hne : ¬ s.data.toList = [] := fun e => h0 (ba_eq e)
  have e1 : linesB s.data.toList = linesW s.data.toList := by unfold linesB linesF linesW splitW; rw [if_neg hne]
  have e2 : endedF s.data.toList = Lib.hasSuffix s.data.toList [10] := by unfold endedF; rw [if_neg hne]
  rw [e1, e2]
  exact (lines_some s B w hs hm h0).mono fun e w' h => ⟨_, h.1, h.2 ▸ (Ext.refl _).alloc _, fun _ => ⟨rfl, h.2 ▸ Blk.new' rfl⟩⟩
theorem intI : (Tryz.prog.info? 3).map (fun i => (i.zero, i.size, i.bytes)) = some (some (.int .i64 0), 1,8) := by kernel_rfl
set_option maxRecDepth 100000 in
set_option maxHeartbeats 1600000 in
theorem nums_goodO (g o n c : Nat) (W : List ByteArray) (w : World) (hc : ∀ (j : Nat) x, W[j]? = some x → w.cell? ⟨g, o + j, none⟩ = some (.string x)) (hg : g < w.heap.size) (hn : W.length = n) (hn1 : n ≤ 1000) (hs : ∀ x ∈ W, x.size ≤ 1000000) (hw : ∀ x ∈ W, numOk 15 x = true) :
 Calls Tryz.prog 221 #[.slice (some ⟨g, o, none⟩) n c] w fun e w' => (∃ p c', e = .returned (.tuple #[.slice p n c', .bool true]) ∧ Slc 1 intC w' p n c' (W.map numV)) ∧ Ext w w' := by
 have hl := Lib.hid hn
 replace hc := Lib.hid hc; replace hs := Lib.hid hs; replace hw := Lib.hid hw; clear hn
 go_enter Tryz.func221, Tryz.ntmps221
 go_wp2
 go_loopw [4,11] (fun v4 i wr => ∃ (k : Nat) (v : Value), k ≤ n ∧ i = .int .i64 k ∧ v4 = v ∧ wr.ownsRow w.heap.size 3 1 v k (((W.take k).map numV).flatMap intC) ∧ Ext w wr) (fun _ i _ => n - (intOf i).toNat)
 case atStart => exact ⟨0, _, Nat.zero_le _, rfl, rfl, World.ownsRow_nil _ _ _ _, Ext.refl _⟩
 case round =>
  obtain ⟨k, v, hk, rfl, rfl, ho, he⟩ := hrel
  by_cases hlt : k < n
  ·obtain ⟨x, hx⟩ := getD_some hl.out hlt
   obtain ⟨hce, -, -⟩ := he.walk
   have c0 := (hce _ (o + k) hg).trans (hc.out k x hx)
   have hxm := List.mem_of_getElem? hx
   have hnum := fun u => number_any x 15 u (by have := hs.out x hxm; omega) (by decide) (by decide)
   have hok := hw.out x hxm
   have hR : numR 15 x = numV x := by unfold numR; rw [if_pos hok]
   rw [hok, hR] at hnum
   have hkI : (k : Int) < n := by omega
   have hst : ((W.take (k + 1)).map numV).flatMap intC = ((W.take k).map numV).flatMap intC ++ intC (numV x) := by
    obtain ⟨hk9, e9⟩ := List.getElem?_eq_some_iff.1 hx
    rw [List.take_succ_eq_append_getElem hk9, e9, List.map_append, List.flatMap_append]
    simp
   replace hnum := Lib.hid hnum; replace hst := Lib.hid hst
   have hsz := he.size
   replace ho := Lib.hid ho; clear hx hce hok hR hxm
   generalize hV : numV x = V at *
   clear hV
   go_wp2_with (first
    | (go_at_call 213; (with_reducible refine Calls.mono (hnum.out _) ?_); rintro e w1 ⟨rfl, hb1⟩; have ho1 := own_ext hb1 ho.out; have hs1 := hb1.size)
    | (at_builtin; go_loud (refine wp_app1 _ (.tmp 22) (.tmp 24) 22 3 1 8 (.int .i64 0) rfl rfl Tryz.underlying22 intI rfl (by decide) (by decide) w.heap.size _ k _ rfl (ho1.alloc _) w1.heap.size (intC V) rfl rfl (Blk.new' rfl) (by simp [intC, Value.oneCell']) (by omega) (by simp; omega) ?_; intro v' w6 hown6 hgrow6 _)))
   go_roundw
   case rel => exact ⟨k + 1, v', by omega, by go_num, rfl, by rw [hst.out]; exact hown6, ((he.trans hb1).alloc _).grown hgrow6 fun j e => (ho1.lt j e).1⟩
   case measure => simp [intOf]; omega
  ·obtain rfl : k = n := by omega
   have hW : W.take k = W := by rw [← hl.out, List.take_length]
   rw [hW] at ho
   obtain ⟨p, c', rfl, hS⟩ := slc_of_own intC_len ho (by decide) (by omega)
   clear ho; replace hS := Lib.hid hS
   go_wp2
   go_ret2
   exact ⟨⟨p, c', rfl, hS.out⟩, he⟩
theorem nums_good (g n c : Nat) (W : List ByteArray) (w : World) (hc : ∀ (j : Nat) x, W[j]? = some x → w.cell? ⟨g, 0 + j, none⟩ = some (.string x)) (hg : g < w.heap.size) (hn : W.length = n) (hn1 : n ≤ 1000) (hs : ∀ x ∈ W, x.size ≤ 1000000) (hw : ∀ x ∈ W, numOk 15 x = true) :
 Calls Tryz.prog 221 #[.slice (some ⟨g, 0, none⟩) n c] w fun e w' => (∃ p c', e = .returned (.tuple #[.slice p n c', .bool true]) ∧ Slc 1 intC w' p n c' (W.map numV)) ∧ Ext w w' :=
 nums_goodO g 0 n c W w hc hg hn hn1 hs hw
set_option maxRecDepth 100000 in
set_option maxHeartbeats 1600000 in
theorem nums_badO (g o n c : Nat) (W : List ByteArray) (w : World) (hc : ∀ (j : Nat) x, W[j]? = some x → w.cell? ⟨g, o + j, none⟩ = some (.string x)) (hg : g < w.heap.size) (hn : W.length = n) (hn1 : n ≤ 1000) (hs : ∀ x ∈ W, x.size ≤ 1000000) (hw : ∃ x ∈ W, numOk 15 x = false) :
 Calls Tryz.prog 221 #[.slice (some ⟨g, o, none⟩) n c] w fun e w' => e = .returned (.tuple #[.slice none 0 0, .bool false]) ∧ Ext w w' := by
 have hl := Lib.hid hn
 replace hc := Lib.hid hc; replace hs := Lib.hid hs; replace hw := Lib.hid hw; clear hn
 go_enter Tryz.func221, Tryz.ntmps221
 go_wp2
 go_loopw [4,11] (fun v4 i wr => ∃ (k : Nat) (v : Value) (L : List Int), k ≤ n ∧ i = .int .i64 k ∧ v4 = v ∧ wr.ownsRow w.heap.size 3 1 v k (L.flatMap intC) ∧ (∀ j x, j < k → W[j]? = some x → numOk 15 x = true) ∧ Ext w wr) (fun _ i _ => n - (intOf i).toNat)
 case atStart => exact ⟨0, _, [], Nat.zero_le _, rfl, rfl, World.ownsRow_nil _ _ _ _, fun j x hj => by omega, Ext.refl _⟩
 case round =>
  obtain ⟨k, v, L, hk, rfl, rfl, ho, hz, he⟩ := hrel
  by_cases hlt : k < n
  ·obtain ⟨x, hx⟩ := getD_some hl.out hlt
   obtain ⟨hce, -, -⟩ := he.walk
   have c0 := (hce _ (o + k) hg).trans (hc.out k x hx)
   have hxm := List.mem_of_getElem? hx
   have hnum := fun u => number_any x 15 u (by have := hs.out x hxm; omega) (by decide) (by decide)
   have hkI : (k : Int) < n := by omega
   have hsz := he.size
   have hz2 : numOk 15 x = true → ∀ j y, j < k + 1 → W[j]? = some y → numOk 15 y = true := fun hok j y hj hy => by
    rcases Nat.lt_or_ge j k with h | h
    ·exact hz j y h hy
    ·obtain rfl : j = k := by omega
     rw [hx] at hy
     cases hy
     exact hok
   replace ho := Lib.hid ho; replace hz2 := Lib.hid hz2; clear hx hce hxm hz
   cases hok : numOk 15 x
   ·rw [hok] at hnum
    generalize numR 15 x = V at *
    replace hnum := Lib.hid hnum; clear hok hz2
    go_wp2_with (go_at_call 213; (with_reducible refine Calls.mono (hnum.out _) ?_); rintro e w1 ⟨rfl, hb1⟩)
    go_ret2
    exact ⟨rfl, he.trans hb1⟩
   ·rw [hok] at hnum
    replace hz2 := Lib.hid (hz2.out hok)
    generalize numR 15 x = V at *
    replace hnum := Lib.hid hnum; clear hok
    go_wp2_with (first
     | (go_at_call 213; (with_reducible refine Calls.mono (hnum.out _) ?_); rintro e w1 ⟨rfl, hb1⟩; have ho1 := own_ext hb1 ho.out; have hs1 := hb1.size)
     | (at_builtin; go_loud (refine wp_app1 _ (.tmp 22) (.tmp 24) 22 3 1 8 (.int .i64 0) rfl rfl Tryz.underlying22 intI rfl (by decide) (by decide) w.heap.size _ k _ rfl (ho1.alloc _) w1.heap.size (intC V) rfl rfl (Blk.new' rfl) (by simp [intC, Value.oneCell']) (by omega) (by simp; omega) ?_; intro v' w6 hown6 hgrow6 _)))
    go_roundw
    case rel => exact ⟨k + 1, v', L ++ [V], by omega, by go_num, rfl, by rw [List.flatMap_append]; simpa using hown6, hz2.out, ((he.trans hb1).alloc _).grown hgrow6 fun j e => (ho1.lt j e).1⟩
    case measure => simp [intOf]; omega
  ·exfalso
   obtain ⟨x, hx, e⟩ := hw.out
   obtain ⟨j, hj, rfl⟩ := List.getElem_of_mem hx
   have := hz j _ (by have := hl.out; omega) (List.getElem?_eq_getElem hj)
   rw [e] at this
   cases this
theorem nums_bad (g n c : Nat) (W : List ByteArray) (w : World) (hc : ∀ (j : Nat) x, W[j]? = some x → w.cell? ⟨g, 0 + j, none⟩ = some (.string x)) (hg : g < w.heap.size) (hn : W.length = n) (hn1 : n ≤ 1000) (hs : ∀ x ∈ W, x.size ≤ 1000000) (hw : ∃ x ∈ W, numOk 15 x = false) :
 Calls Tryz.prog 221 #[.slice (some ⟨g, 0, none⟩) n c] w fun e w' => e = .returned (.tuple #[.slice none 0 0, .bool false]) ∧ Ext w w' :=
 nums_badO g 0 n c W w hc hg hn hn1 hs hw
theorem words_row (s : ByteArray) (B : Nat) (w : World) (hs : s.size ≤ 1000000000) (hm : MaxL B w) (hw : ∀ x ∈ wordsL s.data.toList, x ≠ ⟨#[]⟩) :
 Calls Tryz.prog 220 #[.string s] w fun e w' => e = .returned (.tuple #[.slice (some ⟨w.heap.size, 0, none⟩) (wordsL s.data.toList).length (wordsL s.data.toList).length, .bool true]) ∧ Blk w' w.heap.size 9 ((wordsL s.data.toList).map Value.string).toArray ∧ Ext w w' :=
 (words_good s B w hs hm hw).mono fun _ _ h => ⟨h.1, h.2 ▸ Blk.new' rfl, h.2 ▸ (Ext.refl _).alloc _⟩
theorem joined_any (g n c : Nat) (W : List ByteArray) (w : World) (hc : ∀ (j : Nat) x, W[j]? = some x → w.cell? ⟨g, 0 + j, none⟩ = some (.string x)) (hg : g < w.heap.size) (hn : W.length = n) (hn1 : n ≤ 1000) (hcap : n ≤ c) (hlen : (Lib.join (bytesW W) [32]).length ≤ 1000000000) :
 Calls Tryz.prog 156 #[.slice (some ⟨g, 0, none⟩) n c, .string ⟨#[32]⟩] w fun e w' => e = .returned (.string ⟨(Lib.join (bytesW W) [32]).toArray⟩) ∧ Ext w w' := by
 subst hn
 exact Tryz.strings_Join g 0 c W ⟨#[32]⟩ w hc hg (by omega) hcap (by show (Lib.join (bytesW W) [32]).length ≤ _; omega)
set_option maxRecDepth 100000 in
theorem kitJoin_any (g n c : Nat) (W : List ByteArray) (w : World) (hc : ∀ (j : Nat) x, W[j]? = some x → w.cell? ⟨g, 0 + j, none⟩ = some (.string x)) (hg : g < w.heap.size) (hn : W.length = n) (hn1 : n ≤ 1000) (hcap : n ≤ c) (hlen : (Lib.join (bytesW W) [32]).length ≤ 1000000000) :
 Calls Tryz.prog 152 #[.slice (some ⟨g, 0, none⟩) n c] w fun e w' => e = .returned (.string ((⟨(Lib.join (bytesW W) [32]).toArray⟩ : ByteArray) ++ ⟨#[10]⟩)) ∧ Ext w w' := by
 have hj := joined_any g n c W w hc hg hn hn1 hcap hlen
 have hJ1 : (⟨(Lib.join (bytesW W) [32]).toArray⟩ : ByteArray).size ≤ 1000000000 := by show (Lib.join (bytesW W) [32]).toArray.size ≤ _; simpa using hlen
 have hJ2 : (Lib.join (bytesW W) [32]).toArray.size ≤ 1000000000 := hJ1
 clear hlen
 generalize (Lib.join (bytesW W) [32]).toArray = J at *
 replace hj := Lib.hid hj; clear hc
 go_enter Tryz.func152, Tryz.ntmps152
 go_wp2_with (go_at_call 156; (with_reducible refine Calls.mono hj.out ?_); rintro e w1 ⟨rfl, hb1⟩)
 go_ret
 exact ⟨rfl, hb1⟩
theorem own_blk1 {w : World} {base g n : Nat} {e : TypeId} {cs : List Value} (h : Blk w g e cs.toArray) (hn : cs.length = n) (hb : base ≤ g) (hm : n ≤ 1000000000) : w.ownsRow base e 1 (.slice (some ⟨g, 0, none⟩) n n) n cs :=
 ⟨by omega, .inr ⟨g, n, cs.toArray, rfl, hb, h, Nat.le_refl _, by unfold maxLen; omega, by simp; omega, by simp [← hn]⟩⟩
theorem own_cells1 {w : World} {base g n c : Nat} {e : TypeId} {W : List ByteArray} (h : w.ownsRow base e 1 (.slice (some ⟨g, 0, none⟩) n c) n (W.map Value.string)) (hn : W.length = n) :
 (∀ (j : Nat) x, W[j]? = some x → w.cell? ⟨g, 0 + j, none⟩ = some (.string x)) ∧ g < w.heap.size ∧ n ≤ c := by
 refine ⟨fun j x hx => ?_, (h.lt g rfl).2, ?_⟩
 ·have hj : j < n := by rw [← hn]; exact (List.getElem?_eq_some_iff.1 hx).1
  rw [Nat.zero_add]
  refine (h.cellAt j (by omega)).trans ?_
  rw [List.getElem?_map, hx]; rfl
 ·rcases h.2 with ⟨h1, -⟩ | ⟨g', cap, cur, h1, -, -, h2, -⟩
  ·cases h1
  ·injection h1 with _ _ h3
   omega
theorem lineB_data (l : List UInt8) : ((⟨l.toArray⟩ : ByteArray) ++ ⟨#[10]⟩).data.toList = l ++ [10] := by simp
theorem lineB_size (l : List UInt8) : ((⟨l.toArray⟩ : ByteArray) ++ ⟨#[10]⟩).size = l.length + 1 := by
 have := congrArg List.length (lineB_data l)
 rw [Array.length_toList, List.length_append] at this
 exact this
theorem bldLen_any (B b : Nat) (l : List UInt8) (w : World) (h : BldF B b (Lib.byteCells l) w) :
 Calls Tryz.prog 153 #[.pointer (some ⟨b, 0, none⟩)] w fun e w' => e = .returned (.int .i64 l.length) ∧ w = w' :=
 (Tryz.Builder_Len_f B b (Lib.byteCells l) w h).mono fun _ _ h => ⟨by rw [h.1, Lib.byteCells_length], h.2.symm⟩
theorem bldStr_any (B b : Nat) (l : List UInt8) (w : World) (h : BldF B b (Lib.byteCells l) w) (hB : B ≤ w.heap.size) :
 Calls Tryz.prog 154 #[.pointer (some ⟨b, 0, none⟩)] w fun e w' => e = .returned (.string ⟨l.toArray⟩) ∧ Below B w w' :=
 (Tryz.Builder_String_any_f B b l w h hB).mono fun _ _ h => ⟨h.1, h.2.2⟩
theorem own_setFar {w : World} {base k n : Nat} {e : TypeId} {v : Value} {xs : List Value} (ho : w.ownsRow base e k v n xs) {p : Addr} (hp : ∀ g, v.ownBlock = some g → g ≠ p.block) (u : Value) : (w.setCell p u).ownsRow base e k v n xs := by
 refine ⟨ho.1, ?_⟩
 rcases ho.2 with h1 | ⟨g, cap, cur, rfl, hb, hg, rest⟩
 ·exact .inl h1
 ·exact .inr ⟨g, cap, cur, rfl, hb, (Below.heap_setCell w p u g (hp g rfl)).trans hg, rest⟩
theorem own_lts {w : World} {base k n : Nat} {e : TypeId} {v : Value} {xs : List Value} (ho : w.ownsRow base e k v n xs) {q : Nat} (hq : w.heap.size ≤ q) : ∀ g, v.ownBlock = some g → g ≠ q := fun g hg => by have := (ho.lt g hg).2; omega
end Go.Proofs.YtehboinleolihaaGreatDoor
namespace Go.Proofs.YtehboinleolihaaGreatDoor
open Go Go.Lib Go.RowKit
theorem suffix_cons {x y : List UInt8} (hy : y ≠ []) : Lib.hasSuffix (x ++ 10 :: y) [10] = Lib.hasSuffix y [10] ∧ Lib.trimSuffix (x ++ 10 :: y) [10] = x ++ 10 :: Lib.trimSuffix y [10] := by
 obtain ⟨r, b, rfl⟩ := snoc_of hy
 have e : ∀ l : List UInt8, Lib.hasSuffix (l ++ [b]) [10] = (b == 10) := fun l => by
  unfold Lib.hasSuffix
  rw [Bool.eq_iff_iff, List.isSuffixOf_iff_suffix, beq_iff_eq]
  constructor
  ·rintro ⟨z, hz⟩
   have := congrArg List.getLast? hz
   simpa using this.symm
  ·rintro rfl
   exact List.suffix_append _ _
 have e2 : x ++ 10 :: (r ++ [b]) = (x ++ 10 :: r) ++ [b] := by simp
 rw [e2]
 refine ⟨by rw [e, e], ?_⟩
 unfold Lib.trimSuffix
 rw [e, e]
 have ht : ∀ l : List UInt8, (l ++ [b]).take ((l ++ [b]).length - 1) = l := fun l => by simp
 split
 ·show List.take ((x ++ 10 :: r ++ [b]).length - 1) (x ++ 10 :: r ++ [b]) = x ++ 10 :: List.take ((r ++ [b]).length - 1) (r ++ [b])
  rw [ht, ht]
 ·simp
theorem linesF_cons {x y : List UInt8} (hx : (10 : UInt8) ∉ x) : linesF (x ++ 10 :: y) = x :: linesF y ∧ endedF (x ++ 10 :: y) = endedF y := by
 have hne : x ++ 10 :: y ≠ [] := by simp
 by_cases hy : y = []
 ·subst hy
  unfold linesF endedF
  rw [if_neg hne, if_neg hne, (suffix_snoc x).1, (suffix_snoc x).2, cutL_one hx]
  exact ⟨rfl, rfl⟩
 ·obtain ⟨h1, h2⟩ := suffix_cons (x := x) hy
  unfold linesF endedF
  rw [if_neg hne, if_neg hne, h1, h2, cutL_cons hx, if_neg hy, if_neg hy]
  exact ⟨rfl, rfl⟩
theorem linesF_last {x : List UInt8} (h0 : x ≠ []) (hx : (10 : UInt8) ∉ x) : linesF x = [x] ∧ endedF x = false := by
 have hs : Lib.hasSuffix x [10] = false := by
  rw [Bool.eq_false_iff]
  intro h
  rw [suffix_inv h] at hx
  exact hx (by simp)
 unfold linesF endedF
 rw [if_neg h0, if_neg h0]
 refine ⟨?_, hs⟩
 unfold Lib.trimSuffix
 rw [hs]
 exact cutL_one hx
theorem linesF_nil {x : List UInt8} (h : linesF x = []) : x = [] := by
 unfold linesF at h
 split at h
 ·assumption
 ·exact absurd h (cutL_ne _ _)
/-- What is left of a text behind k lines. -/
def LeftL (t u : List UInt8) (k : Nat) : Prop := (linesF t).drop k = linesF u ∧ endedF t = endedF u ∧ k ≤ (linesF t).length
theorem LeftL.start (t : List UInt8) : LeftL t t 0 := ⟨rfl, rfl, Nat.zero_le _⟩
theorem LeftL.done {t : List UInt8} {k : Nat} (h : LeftL t [] k) : k = (linesF t).length := by
 obtain ⟨h1, h2, h3⟩ := h
 have := congrArg List.length h1
 rw [List.length_drop] at this
 have e : (linesF []).length = 0 := rfl
 omega
theorem LeftL.line {t x y : List UInt8} {k : Nat} (h : LeftL t (x ++ 10 :: y) k) (hx : (10 : UInt8) ∉ x) : (linesF t)[k]? = some x ∧ LeftL t y (k + 1) ∧ ∀ {α : Type} (rd : List UInt8 → Option α), badG rd (linesF t) (endedF t) k = (rd x).isNone := by
 obtain ⟨h1, h2, h3⟩ := h
 obtain ⟨e1, e2⟩ := linesF_cons (y := y) hx
 rw [e1] at h1
 rw [e2] at h2
 have hlen := congrArg List.length h1
 rw [List.length_drop, List.length_cons] at hlen
 have hk : (linesF t)[k]? = some x := by
  have := congrArg (fun l => l[0]?) h1
  simpa using this
 refine ⟨hk, ⟨?_, h2, by omega⟩, fun rd => ?_⟩
 ·rw [show k + 1 = 1 + k by omega, ← List.drop_drop]
  have := congrArg (List.drop 1) h1
  simpa [List.drop_drop, Nat.add_comm] using this
 ·unfold badG
  rw [List.getD_eq_getElem?_getD, hk, h2]
  simp only [Option.getD_some]
  by_cases hy : y = []
  ·subst hy
   rw [show endedF [] = true from rfl]
   simp
  ·have : (linesF y).length ≠ 0 := fun e => hy (linesF_nil (List.eq_nil_of_length_eq_zero e))
   rw [show decide (k + 1 = (linesF t).length) = false by simp; omega]
   simp
theorem LeftL.last {t u : List UInt8} {k : Nat} (h : LeftL t u k) (h0 : u ≠ []) (hu : (10 : UInt8) ∉ u) : k < (linesF t).length ∧ ∀ {α : Type} (rd : List UInt8 → Option α), badG rd (linesF t) (endedF t) k = true := by
 obtain ⟨h1, h2, h3⟩ := h
 obtain ⟨e1, e2⟩ := linesF_last h0 hu
 rw [e1] at h1
 rw [e2] at h2
 have hlen := congrArg List.length h1
 rw [List.length_drop, List.length_cons, List.length_nil] at hlen
 refine ⟨by omega, fun rd => ?_⟩
 unfold badG
 rw [h2, show decide (k + 1 = (linesF t).length) = true by simp; omega]
 simp
theorem cut_hit {x y : List UInt8} (hx : (10 : UInt8) ∉ x) : Lib.cut (x ++ 10 :: y) [10] = (x, y, true) := by
 unfold Lib.cut
 rw [index_one_hit y hx, if_pos (by omega)]
 simp
theorem cut_miss {x : List UInt8} (hx : (10 : UInt8) ∉ x) : Lib.cut x [10] = (x, [], false) := by
 unfold Lib.cut
 rw [index_one_miss hx, if_neg (by decide)]
theorem cut_call {B : Nat} {u : ByteArray} {w : World} (hs : u.size ≤ 1000000) (hm : MaxL B w) :
 Calls Tryz.prog 222 #[.string u, .string ⟨#[10]⟩] w fun e w' => e = .returned (.tuple #[.string ⟨(Lib.cut u.data.toList [10]).1.toArray⟩, .string ⟨(Lib.cut u.data.toList [10]).2.1.toArray⟩, .bool (Lib.cut u.data.toList [10]).2.2]) ∧ Ext w w' := by
 obtain ⟨-, -, m, hm⟩ := hm
 exact (Tryz.strings_Cut u ⟨#[10]⟩ m w (by omega) hm).mono fun e w' ⟨he, n, hn⟩ => ⟨he, hn ▸ below_drewN' (Below.refl _ w) n⟩
end Go.Proofs.YtehboinleolihaaGreatDoor
