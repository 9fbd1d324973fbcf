/- Slips in memory; how they are ordered; what is wrong with one, by both texts. Conditions: sizes. (Printed by gen_slc.py.) -/
import Derived.Test.YtkjhbofbcmelgaaGreatDoorEzJ9
import Derived.Test.YtkjhbofbcmelgaaGreatDoorEzJ5
import Derived.Test.YtkjhbofbcmelgaaGreatDoorEzJ3
import Derived.Test.YtkjhbofbcmelgaaGreatDoorEzJ11
import Derived.Deep.DeepCutAuto
import Derived.Deep.Light
import Derived.Lib.AppendIntMem
set_option linter.unusedSimpArgs false
set_option linter.unusedVariables false
namespace Go.Proofs.YtkjhbofbcmelgaaGreatDoor
open Go Go.RowKit Go.Sort
instance : Inhabited SlipV := ⟨⟨⟨#[]⟩, 0,0,0, ⟨#[]⟩, 0, ⟨#[]⟩⟩⟩
theorem Elems.slip {w : World} {b off : Nat} {xs : List SlipV} (h : Elems 7 slipC w b off xs) {i : Nat} {x : SlipV} (hx : xs[i]? = some x) :
 w.cell? ⟨b, off + i * 7, none⟩ = some (.string x.by_) ∧ w.cell? ⟨b, off + i * 7 + 1, none⟩ = some (.int .i64 x.no) ∧ w.cell? ⟨b, off + i * 7 + 2, none⟩ = some (.int .i64 x.at_) ∧ w.cell? ⟨b, off + i * 7 + 3, none⟩ = some (.int .i64 x.kind) ∧
  w.cell? ⟨b, off + i * 7 + 4, none⟩ = some (.string x.piece) ∧ w.cell? ⟨b, off + i * 7 + 5, none⟩ = some (.int .i64 x.copy) ∧ w.cell? ⟨b, off + i * 7 + 6, none⟩ = some (.string x.singer) :=
 ⟨h i x hx 0 _ rfl, h i x hx 1 _ rfl, h i x hx 2 _ rfl, h i x hx 3 _ rfl, h i x hx 4 _ rfl, h i x hx 5 _ rfl, h i x hx 6 _ rfl⟩
def SlipV.Small (x : SlipV) : Prop := x.by_.size ≤ 1000000 ∧ x.piece.size ≤ 1000000 ∧ x.singer.size ≤ 1000000
/-- How slips are ordered. -/
def sliO (a b : SlipV) : Int := orF [cmpS a.by_ b.by_, cmpZ a.no b.no]
theorem sliO_three (a b : SlipV) : sliO a b = -1 ∨ sliO a b = 0 ∨ sliO a b = 1 := by
 have hz : cmpZ a.no b.no = -1 ∨ cmpZ a.no b.no = 0 ∨ cmpZ a.no b.no = 1 := by unfold cmpZ; split <;> (try split) <;> omega
 unfold sliO orF
 rcases cmpS_three a.by_ b.by_ with h | h | h <;> rcases hz with k | k | k <;> rw [h, k] <;> decide
def chkSli (xs : List SlipV) (i : Nat) : Int := if slipE (atL default xs i) = 0 then (if 0 < i && decide (0 ≤ sliO (atL default xs (i - 1)) (atL default xs i)) then 7 else 0) else slipE (atL default xs i)
theorem sOut_is {n lo hi : Int} {v : Bool} (h : outB n lo hi = v) (w : World) :
 Calls Tryz.prog 159 #[.int .i64 n, .int .i64 lo, .int .i64 hi] w fun e w' => e = .returned (.bool v) ∧ w = w' := h ▸ outside_any n lo hi w
theorem sIn_is {n lo hi : Int} {v : Bool} (h : outB n lo hi = v) (w : World) :
 Calls Tryz.prog 74 #[.int .i64 n, .int .i64 lo, .int .i64 hi] w fun e w' => e = .returned (.bool (!v)) ∧ w = w' := by
 have e : (!v) = inB n lo hi := by rw [← h, outB_inB]; simp
 rw [e]; exact in_any n lo hi w
set_option maxRecDepth 100000 in
theorem sMom_is {n : Int} {v : Bool} (h : outB n 0 345686399999 = v) (w : World) :
 Calls Tryz.prog 125 #[.int .i64 n] w fun e w' => e = .returned (.bool (!v)) ∧ Ext w w' := by
 have ho := fun w => sOut_is h w
 replace ho := Lib.hid ho; clear h
 go_enter Tryz.func125, Tryz.ntmps125
 go_wp2_with (go_at_call 159; (with_reducible refine Calls.mono (ho.out _) ?_); rintro e w' ⟨rfl, rfl⟩)
 go_ret
 exact ⟨rfl, Ext.refl _⟩
set_option maxRecDepth 100000 in
theorem sMomF_is {n : Int} {v : Bool} (h : outB n 0 345686399999 = v) (w : World) :
 Calls Tryz.prog 19 #[.int .i64 n] w fun e w' => e = .returned (.int .i64 (if v then 1 else 0)) ∧ Ext w w' := by
 have hs : (if v then 1 else 0 : Int) = spanF n 0 345686399999 := by
  unfold spanF
  rw [outB_inB] at h
  rw [← h]
  cases inB n 0 345686399999 <;> rfl
 rw [hs]
 clear hs h
 go_enter Tryz.func19, Tryz.ntmps19
 go_wp2_with (go_at_call 75; (with_reducible refine Calls.mono (spanFault_any n 0 345686399999 _) ?_); rintro e w' ⟨rfl, rfl⟩)
 generalize spanF n 0 345686399999 = v
 go_ret
 exact ⟨rfl, Ext.refl _⟩
set_option maxRecDepth 100000 in
set_option maxHeartbeats 1600000 in
theorem sliOwnG_any (y x : SlipV) (w : World) :
 Calls Tryz.prog 205 #[.agg #[.string y.by_, .int .i64 y.no, .int .i64 y.at_, .int .i64 y.kind, .string y.piece, .int .i64 y.copy, .string y.singer], .agg #[.string x.by_, .int .i64 x.no, .int .i64 x.at_, .int .i64 x.kind, .string x.piece, .int .i64 x.copy, .string x.singer]] w fun e w' => e = .returned (.int .i64 (sliO y x)) ∧ ∃ q os', w' = grow (w.drewN q) os' := by
 have hF : sliO y x = orF [cmpS y.by_ x.by_, cmpZ y.no x.no] := rfl
 rw [hF]
 clear hF
 have hX : Blk ((w.alloc (.cells #[.string y.by_, .int .i64 y.no, .int .i64 y.at_, .int .i64 y.kind, .string y.piece, .int .i64 y.copy, .string y.singer] 101)).alloc (.cells #[.string x.by_, .int .i64 x.no, .int .i64 x.at_, .int .i64 x.kind, .string x.piece, .int .i64 x.copy, .string x.singer] 101)) w.heap.size 101 #[.string y.by_, .int .i64 y.no, .int .i64 y.at_, .int .i64 y.kind, .string y.piece, .int .i64 y.copy, .string y.singer] := (Blk.new' rfl).alloc _
 have hY : Blk ((w.alloc (.cells #[.string y.by_, .int .i64 y.no, .int .i64 y.at_, .int .i64 y.kind, .string y.piece, .int .i64 y.copy, .string y.singer] 101)).alloc (.cells #[.string x.by_, .int .i64 x.no, .int .i64 x.at_, .int .i64 x.kind, .string x.piece, .int .i64 x.copy, .string x.singer] 101)) (w.heap.size + 1) 101 #[.string x.by_, .int .i64 x.no, .int .i64 x.at_, .int .i64 x.kind, .string x.piece, .int .i64 x.copy, .string x.singer] := Blk.new' (by simp)
 go_enter Tryz.func205, Tryz.ntmps205
 go_upto_region 1 with fail
 refine wp_region_planS [(0, true), (1, true), (2, true), (3, true), (4, true), (5, true), (6, true), (7, true), (8, true), (9, true)] 10 (fun w' => Blk w' w.heap.size 101 #[.string y.by_, .int .i64 y.no, .int .i64 y.at_, .int .i64 y.kind, .string y.piece, .int .i64 y.copy, .string y.singer] ∧ Blk w' (w.heap.size + 1) 101 #[.string x.by_, .int .i64 x.no, .int .i64 x.at_, .int .i64 x.kind, .string x.piece, .int .i64 x.copy, .string x.singer]) Drw (by kernel_rfl) (by kernel_rfl) Drw.refl (fun _ _ _ => Drw.trans) (fun _ _ h he => ⟨h.1.drw he, h.2.drw he⟩) ⟨(by (repeat (with_reducible first | assumption | exact Blk.new' (by simp) | refine Blk.drew ?_ | refine Blk.alloc ?_ _ | exact Drw.refl _ | refine Ext.drew ?_ | refine Ext.alloc ?_ _))), (by (repeat (with_reducible first | assumption | exact Blk.new' (by simp) | refine Blk.drew ?_ | refine Blk.alloc ?_ _ | exact Drw.refl _ | refine Ext.drew ?_ | refine Ext.alloc ?_ _)))⟩ ?_
 repeat
  first
   | (refine plan_quiet rfl rfl (fun _ _ _ _ h => h) ?_
      apply Exists.intro
      refine ⟨fun w' hw' => ?_, ?_⟩
      ·obtain ⟨hH0, hH1⟩ := hw'
       unfold Blk at hH0 hH1
       simp [go_sem, quietTo, World.cell?, hH0, hH1, Drw.refl, ↓IntWalk.iteOmega]
       first
        | rfl
        | (exact cmpSE_any _ _ _)
        | (exact cmpIntE_any _ _ _)
      simp only [Act.put, sIA, sCS, sCZ])
   | (refine plan_skip rfl rfl (fun _ _ _ _ h => h) ?_
      simp only [Act.put, sIA, sCS, sCZ])
 refine plan_nil fun wr her hwr => ?_
 obtain ⟨hH0, hH1⟩ := hwr
 obtain ⟨hC0, hF0⟩ := hH0.walk
 obtain ⟨hC1, hF1⟩ := hH1.walk
 simp only [List.drop_succ_cons, List.drop_zero, List.drop_nil]
 go_wp2_with (go_at_call 85; refine (orInt_blk _ _ 2 [cmpS y.by_ x.by_, cmpZ y.no x.no] _ (by simp) (Blk.new' rfl)).mono ?_; rintro e w2 ⟨rfl, rfl⟩)
 go_ret
 refine ⟨rfl, ?_⟩
 obtain ⟨q, rfl⟩ := her
 exact ⟨q + 1, _, grow_three _ _ _ _ _⟩
theorem sliOwn_any (y x : SlipV) (w : World) :
 Calls Tryz.prog 205 #[.agg #[.string y.by_, .int .i64 y.no, .int .i64 y.at_, .int .i64 y.kind, .string y.piece, .int .i64 y.copy, .string y.singer], .agg #[.string x.by_, .int .i64 x.no, .int .i64 x.at_, .int .i64 x.kind, .string x.piece, .int .i64 x.copy, .string x.singer]] w fun e w' => e = .returned (.int .i64 (sliO y x)) ∧ Ext w w' :=
 (sliOwnG_any y x w).mono fun _ _ ⟨h, q, os, e⟩ => ⟨h, by rw [e]; exact Lib.below_grow _ _ (Nat.le_refl _) q os⟩
set_option maxRecDepth 100000 in
set_option maxHeartbeats 1600000 in
theorem sliByG_any (y x : SlipV) (w : World) :
 Calls Tryz.prog 115 #[.agg #[.string y.by_, .int .i64 y.no, .int .i64 y.at_, .int .i64 y.kind, .string y.piece, .int .i64 y.copy, .string y.singer], .agg #[.string x.by_, .int .i64 x.no, .int .i64 x.at_, .int .i64 x.kind, .string x.piece, .int .i64 x.copy, .string x.singer]] w fun e w' => e = .returned (.int .i64 (sliO y x)) ∧ ∃ q os', w' = grow (w.drewN q) os' := by
 have hF : sliO y x = orF [cmpS y.by_ x.by_, cmpZ y.no x.no] := rfl
 rw [hF]
 clear hF
 have hX : Blk ((w.alloc (.cells #[.string y.by_, .int .i64 y.no, .int .i64 y.at_, .int .i64 y.kind, .string y.piece, .int .i64 y.copy, .string y.singer] 101)).alloc (.cells #[.string x.by_, .int .i64 x.no, .int .i64 x.at_, .int .i64 x.kind, .string x.piece, .int .i64 x.copy, .string x.singer] 101)) w.heap.size 101 #[.string y.by_, .int .i64 y.no, .int .i64 y.at_, .int .i64 y.kind, .string y.piece, .int .i64 y.copy, .string y.singer] := (Blk.new' rfl).alloc _
 have hY : Blk ((w.alloc (.cells #[.string y.by_, .int .i64 y.no, .int .i64 y.at_, .int .i64 y.kind, .string y.piece, .int .i64 y.copy, .string y.singer] 101)).alloc (.cells #[.string x.by_, .int .i64 x.no, .int .i64 x.at_, .int .i64 x.kind, .string x.piece, .int .i64 x.copy, .string x.singer] 101)) (w.heap.size + 1) 101 #[.string x.by_, .int .i64 x.no, .int .i64 x.at_, .int .i64 x.kind, .string x.piece, .int .i64 x.copy, .string x.singer] := Blk.new' (by simp)
 go_enter Tryz.func115, Tryz.ntmps115
 go_upto_region 1 with fail
 refine wp_region_planS [(0, true), (1, true), (2, true), (3, true), (4, true), (5, true), (6, true), (7, true), (8, true), (9, true)] 10 (fun w' => Blk w' w.heap.size 101 #[.string y.by_, .int .i64 y.no, .int .i64 y.at_, .int .i64 y.kind, .string y.piece, .int .i64 y.copy, .string y.singer] ∧ Blk w' (w.heap.size + 1) 101 #[.string x.by_, .int .i64 x.no, .int .i64 x.at_, .int .i64 x.kind, .string x.piece, .int .i64 x.copy, .string x.singer]) Drw (by kernel_rfl) (by kernel_rfl) Drw.refl (fun _ _ _ => Drw.trans) (fun _ _ h he => ⟨h.1.drw he, h.2.drw he⟩) ⟨(by (repeat (with_reducible first | assumption | exact Blk.new' (by simp) | refine Blk.drew ?_ | refine Blk.alloc ?_ _ | exact Drw.refl _ | refine Ext.drew ?_ | refine Ext.alloc ?_ _))), (by (repeat (with_reducible first | assumption | exact Blk.new' (by simp) | refine Blk.drew ?_ | refine Blk.alloc ?_ _ | exact Drw.refl _ | refine Ext.drew ?_ | refine Ext.alloc ?_ _)))⟩ ?_
 repeat
  first
   | (refine plan_quiet rfl rfl (fun _ _ _ _ h => h) ?_
      apply Exists.intro
      refine ⟨fun w' hw' => ?_, ?_⟩
      ·obtain ⟨hH0, hH1⟩ := hw'
       unfold Blk at hH0 hH1
       simp [go_sem, quietTo, World.cell?, hH0, hH1, Drw.refl, ↓IntWalk.iteOmega]
       first
        | rfl
        | (exact cmpSE_any _ _ _)
        | (exact cmpIntE_any _ _ _)
      simp only [Act.put, sIA, sCS, sCZ])
   | (refine plan_skip rfl rfl (fun _ _ _ _ h => h) ?_
      simp only [Act.put, sIA, sCS, sCZ])
 refine plan_nil fun wr her hwr => ?_
 obtain ⟨hH0, hH1⟩ := hwr
 obtain ⟨hC0, hF0⟩ := hH0.walk
 obtain ⟨hC1, hF1⟩ := hH1.walk
 simp only [List.drop_succ_cons, List.drop_zero, List.drop_nil]
 go_wp2_with (go_at_call 85; refine (orInt_blk _ _ 2 [cmpS y.by_ x.by_, cmpZ y.no x.no] _ (by simp) (Blk.new' rfl)).mono ?_; rintro e w2 ⟨rfl, rfl⟩)
 go_ret
 refine ⟨rfl, ?_⟩
 obtain ⟨q, rfl⟩ := her
 exact ⟨q + 1, _, grow_three _ _ _ _ _⟩
theorem sliBy_any (y x : SlipV) (w : World) :
 Calls Tryz.prog 115 #[.agg #[.string y.by_, .int .i64 y.no, .int .i64 y.at_, .int .i64 y.kind, .string y.piece, .int .i64 y.copy, .string y.singer], .agg #[.string x.by_, .int .i64 x.no, .int .i64 x.at_, .int .i64 x.kind, .string x.piece, .int .i64 x.copy, .string x.singer]] w fun e w' => e = .returned (.int .i64 (sliO y x)) ∧ Ext w w' :=
 (sliByG_any y x w).mono fun _ _ ⟨h, q, os, e⟩ => ⟨h, by rw [e]; exact Lib.below_grow _ _ (Nat.le_refl _) q os⟩
set_option maxRecDepth 100000 in
set_option maxHeartbeats 3200000 in
theorem slipFault_any (p : Option Addr) (n c : Nat) (xs : List SlipV) (k : Nat) (w : World) (h : Sl 7 slipC w p n xs) (hs : ∀ x ∈ xs, x.Small) (hlt : k < n) (hn : n ≤ 100000) :
 Calls Tryz.prog 166 #[.slice p n c, .int .i64 k] w fun e w' => e = .returned (.int .i64 (chkSli xs k)) ∧ Ext w w' := by
 have hl := h.1
 obtain ⟨b, off, rfl, hb, hE⟩ := h.2.2 (by omega)
 clear h
 obtain ⟨x, hx⟩ := getD_some hl hlt
 obtain ⟨s1, s2, s3⟩ := hs x (List.mem_of_getElem? hx)
 obtain ⟨c0, c1, c2, c3, c4, c5, c6⟩ := hE.slip hx
 have hv : chkSli xs k = if slipE x = 0 then (if 0 < k && decide (0 ≤ sliO (atL default xs (k - 1)) x) then 7 else 0) else slipE x := by unfold chkSli; rw [atL_of hx]
 have hvE : slipE x ≠ 0 → chkSli xs k = slipE x := fun h => by rw [hv, if_neg h]
 have hprev : ∀ j y, k = j + 1 → xs[j]? = some y → w.cell? ⟨b, off + j * 7, none⟩ = some (.string y.by_) ∧ w.cell? ⟨b, off + j * 7 + 1, none⟩ = some (.int .i64 y.no) ∧ w.cell? ⟨b, off + j * 7 + 2, none⟩ = some (.int .i64 y.at_) ∧ w.cell? ⟨b, off + j * 7 + 3, none⟩ = some (.int .i64 y.kind) ∧ w.cell? ⟨b, off + j * 7 + 4, none⟩ = some (.string y.piece) ∧ w.cell? ⟨b, off + j * 7 + 5, none⟩ = some (.int .i64 y.copy) ∧ w.cell? ⟨b, off + j * 7 + 6, none⟩ = some (.string y.singer) := fun j y _ hy => hE.slip hy
 have hkI : (k : Int) < n := by omega
 replace hx := Lib.hid hx; replace hv := Lib.hid hv; replace hvE := Lib.hid hvE; replace hprev := Lib.hid hprev
 have hX := Lib.hid (Blk.new' (w := w) (t := 101) (cs := #[.string x.by_, .int .i64 x.no, .int .i64 x.at_, .int .i64 x.kind, .string x.piece, .int .i64 x.copy, .string x.singer]) rfl)
 have he : Ext w (w.alloc (.cells #[.string x.by_, .int .i64 x.no, .int .i64 x.at_, .int .i64 x.kind, .string x.piece, .int .i64 x.copy, .string x.singer] 101)) := (Ext.refl _).alloc _
 replace hs := Lib.hid hs; replace hl := Lib.hid hl; clear hE
 cases hk1 : keyB x.by_
 case false =>
  have hq : slipE x = 5 := by unfold slipE; simp [hk1]
  go_enter Tryz.func166, Tryz.ntmps166
  go_wp2_with (first
   | (go_at_call 132; (with_reducible refine Calls.mono (isKey_is hk1 (by omega) _) ?_); rintro e w1 ⟨rfl, hb1⟩; replace he := he.trans hb1; replace hX := Lib.hid (hX.out.ext hb1); clear hb1; (try clear p q lt); obtain ⟨p, q⟩ := hX.out.walk; have lt := hX.out.lt))
  go_ret
  exact ⟨ret_int (by rw [hvE.out (by rw [hq]; decide), hq]), he⟩
 cases hk2 : outB x.no 1 3000
 case true =>
  have hq : slipE x = 1 := by unfold slipE; simp [hk1, hk2]
  go_enter Tryz.func166, Tryz.ntmps166
  go_wp2_with (first
   | (go_at_call 132; (with_reducible refine Calls.mono (isKey_is hk1 (by omega) _) ?_); rintro e w1 ⟨rfl, hb1⟩; replace he := he.trans hb1; replace hX := Lib.hid (hX.out.ext hb1); clear hb1; (try clear p q lt); obtain ⟨p, q⟩ := hX.out.walk; have lt := hX.out.lt)
   | (go_at_call 159; (with_reducible refine Calls.mono (sOut_is hk2 _) ?_); rintro e w2 ⟨rfl, rfl⟩; (try simp only [Bool.not_true, Bool.not_false])))
  go_ret
  exact ⟨ret_int (by rw [hvE.out (by rw [hq]; decide), hq]), he⟩
 cases hk3 : outB x.at_ 0 345686399999
 case true =>
  have hq : slipE x = 1 := by unfold slipE; simp [hk1, hk2, hk3]
  go_enter Tryz.func166, Tryz.ntmps166
  go_wp2_with (first
   | (go_at_call 132; (with_reducible refine Calls.mono (isKey_is hk1 (by omega) _) ?_); rintro e w1 ⟨rfl, hb1⟩; replace he := he.trans hb1; replace hX := Lib.hid (hX.out.ext hb1); clear hb1; (try clear p q lt); obtain ⟨p, q⟩ := hX.out.walk; have lt := hX.out.lt)
   | (go_at_call 159; (with_reducible refine Calls.mono (sOut_is hk2 _) ?_); rintro e w2 ⟨rfl, rfl⟩; (try simp only [Bool.not_true, Bool.not_false]))
   | (go_at_call 125; (with_reducible refine Calls.mono (sMom_is hk3 _) ?_); rintro e w3 ⟨rfl, hb1⟩; replace he := he.trans hb1; replace hX := Lib.hid (hX.out.ext hb1); clear hb1; (try clear p q lt); obtain ⟨p, q⟩ := hX.out.walk; have lt := hX.out.lt; (try simp only [Bool.not_true, Bool.not_false, if_true, if_false, Bool.false_eq_true])))
  go_ret
  exact ⟨ret_int (by rw [hvE.out (by rw [hq]; decide), hq]), he⟩
 cases hk4 : outB x.kind 1 5
 case true =>
  have hq : slipE x = 4 := by unfold slipE; simp [hk1, hk2, hk3, hk4]
  go_enter Tryz.func166, Tryz.ntmps166
  go_wp2_with (first
   | (go_at_call 132; (with_reducible refine Calls.mono (isKey_is hk1 (by omega) _) ?_); rintro e w1 ⟨rfl, hb1⟩; replace he := he.trans hb1; replace hX := Lib.hid (hX.out.ext hb1); clear hb1; (try clear p q lt); obtain ⟨p, q⟩ := hX.out.walk; have lt := hX.out.lt)
   | (go_at_call 159; (with_reducible refine Calls.mono (sOut_is hk2 _) ?_); rintro e w2 ⟨rfl, rfl⟩; (try simp only [Bool.not_true, Bool.not_false]))
   | (go_at_call 125; (with_reducible refine Calls.mono (sMom_is hk3 _) ?_); rintro e w3 ⟨rfl, hb1⟩; replace he := he.trans hb1; replace hX := Lib.hid (hX.out.ext hb1); clear hb1; (try clear p q lt); obtain ⟨p, q⟩ := hX.out.walk; have lt := hX.out.lt; (try simp only [Bool.not_true, Bool.not_false, if_true, if_false, Bool.false_eq_true]))
   | (go_at_call 159; (with_reducible refine Calls.mono (sOut_is hk4 _) ?_); rintro e w4 ⟨rfl, rfl⟩; (try simp only [Bool.not_true, Bool.not_false])))
  go_ret
  exact ⟨ret_int (by rw [hvE.out (by rw [hq]; decide), hq]), he⟩
 cases hk5 : keyB x.piece
 case false =>
  have hq : slipE x = 5 := by unfold slipE; simp [hk1, hk2, hk3, hk4, hk5]
  go_enter Tryz.func166, Tryz.ntmps166
  go_wp2_with (first
   | (go_at_call 132; (with_reducible refine Calls.mono (isKey_is hk1 (by omega) _) ?_); rintro e w1 ⟨rfl, hb1⟩; replace he := he.trans hb1; replace hX := Lib.hid (hX.out.ext hb1); clear hb1; (try clear p q lt); obtain ⟨p, q⟩ := hX.out.walk; have lt := hX.out.lt)
   | (go_at_call 159; (with_reducible refine Calls.mono (sOut_is hk2 _) ?_); rintro e w2 ⟨rfl, rfl⟩; (try simp only [Bool.not_true, Bool.not_false]))
   | (go_at_call 125; (with_reducible refine Calls.mono (sMom_is hk3 _) ?_); rintro e w3 ⟨rfl, hb1⟩; replace he := he.trans hb1; replace hX := Lib.hid (hX.out.ext hb1); clear hb1; (try clear p q lt); obtain ⟨p, q⟩ := hX.out.walk; have lt := hX.out.lt; (try simp only [Bool.not_true, Bool.not_false, if_true, if_false, Bool.false_eq_true]))
   | (go_at_call 159; (with_reducible refine Calls.mono (sOut_is hk4 _) ?_); rintro e w4 ⟨rfl, rfl⟩; (try simp only [Bool.not_true, Bool.not_false]))
   | (go_at_call 132; (with_reducible refine Calls.mono (isKey_is hk5 (by omega) _) ?_); rintro e w5 ⟨rfl, hb1⟩; replace he := he.trans hb1; replace hX := Lib.hid (hX.out.ext hb1); clear hb1; (try clear p q lt); obtain ⟨p, q⟩ := hX.out.walk; have lt := hX.out.lt))
  go_ret
  exact ⟨ret_int (by rw [hvE.out (by rw [hq]; decide), hq]), he⟩
 cases hk6 : outB x.copy 1 500
 case true =>
  have hq : slipE x = 1 := by unfold slipE; simp [hk1, hk2, hk3, hk4, hk5, hk6]
  go_enter Tryz.func166, Tryz.ntmps166
  go_wp2_with (first
   | (go_at_call 132; (with_reducible refine Calls.mono (isKey_is hk1 (by omega) _) ?_); rintro e w1 ⟨rfl, hb1⟩; replace he := he.trans hb1; replace hX := Lib.hid (hX.out.ext hb1); clear hb1; (try clear p q lt); obtain ⟨p, q⟩ := hX.out.walk; have lt := hX.out.lt)
   | (go_at_call 159; (with_reducible refine Calls.mono (sOut_is hk2 _) ?_); rintro e w2 ⟨rfl, rfl⟩; (try simp only [Bool.not_true, Bool.not_false]))
   | (go_at_call 125; (with_reducible refine Calls.mono (sMom_is hk3 _) ?_); rintro e w3 ⟨rfl, hb1⟩; replace he := he.trans hb1; replace hX := Lib.hid (hX.out.ext hb1); clear hb1; (try clear p q lt); obtain ⟨p, q⟩ := hX.out.walk; have lt := hX.out.lt; (try simp only [Bool.not_true, Bool.not_false, if_true, if_false, Bool.false_eq_true]))
   | (go_at_call 159; (with_reducible refine Calls.mono (sOut_is hk4 _) ?_); rintro e w4 ⟨rfl, rfl⟩; (try simp only [Bool.not_true, Bool.not_false]))
   | (go_at_call 132; (with_reducible refine Calls.mono (isKey_is hk5 (by omega) _) ?_); rintro e w5 ⟨rfl, hb1⟩; replace he := he.trans hb1; replace hX := Lib.hid (hX.out.ext hb1); clear hb1; (try clear p q lt); obtain ⟨p, q⟩ := hX.out.walk; have lt := hX.out.lt)
   | (go_at_call 159; (with_reducible refine Calls.mono (sOut_is hk6 _) ?_); rintro e w6 ⟨rfl, rfl⟩; (try simp only [Bool.not_true, Bool.not_false])))
  go_ret
  exact ⟨ret_int (by rw [hvE.out (by rw [hq]; decide), hq]), he⟩
 by_cases hk7 : x.kind = 1
 ·have hk7b : decide (x.kind = 1) = true := by simp [hk7]
  have hk4b : outB 1 1 5 = false := by decide
  replace hk7 := Lib.hid hk7
  cases hk8 : keyB x.singer
  ·have hq : slipE x = 5 := by unfold slipE; simp [hk1, hk2, hk3, hk4, hk5, hk6, hk7.out, hk8, hk4b]
   go_enter Tryz.func166, Tryz.ntmps166
   go_wp2_with (first
   | (go_at_call 132; (with_reducible refine Calls.mono (isKey_is hk1 (by omega) _) ?_); rintro e w1 ⟨rfl, hb1⟩; replace he := he.trans hb1; replace hX := Lib.hid (hX.out.ext hb1); clear hb1; (try clear p q lt); obtain ⟨p, q⟩ := hX.out.walk; have lt := hX.out.lt)
   | (go_at_call 159; (with_reducible refine Calls.mono (sOut_is hk2 _) ?_); rintro e w2 ⟨rfl, rfl⟩; (try simp only [Bool.not_true, Bool.not_false]))
   | (go_at_call 125; (with_reducible refine Calls.mono (sMom_is hk3 _) ?_); rintro e w3 ⟨rfl, hb1⟩; replace he := he.trans hb1; replace hX := Lib.hid (hX.out.ext hb1); clear hb1; (try clear p q lt); obtain ⟨p, q⟩ := hX.out.walk; have lt := hX.out.lt; (try simp only [Bool.not_true, Bool.not_false, if_true, if_false, Bool.false_eq_true]))
   | (go_at_call 159; (with_reducible refine Calls.mono (sOut_is hk4 _) ?_); rintro e w4 ⟨rfl, rfl⟩; (try simp only [Bool.not_true, Bool.not_false]))
   | (go_at_call 132; (with_reducible refine Calls.mono (isKey_is hk5 (by omega) _) ?_); rintro e w5 ⟨rfl, hb1⟩; replace he := he.trans hb1; replace hX := Lib.hid (hX.out.ext hb1); clear hb1; (try clear p q lt); obtain ⟨p, q⟩ := hX.out.walk; have lt := hX.out.lt)
   | (go_at_call 159; (with_reducible refine Calls.mono (sOut_is hk6 _) ?_); rintro e w6 ⟨rfl, rfl⟩; (try simp only [Bool.not_true, Bool.not_false]))
   | (go_at_call 132; (with_reducible refine Calls.mono (isKey_is hk8 (by omega) _) ?_); rintro e w8 ⟨rfl, hb1⟩; replace he := he.trans hb1; replace hX := Lib.hid (hX.out.ext hb1); clear hb1; (try clear p q lt); obtain ⟨p, q⟩ := hX.out.walk; have lt := hX.out.lt))
   go_ret
   exact ⟨ret_int (by rw [hvE.out (by rw [hq]; decide), hq]), he⟩
  ·have hq : slipE x = 0 := by unfold slipE; simp [hk1, hk2, hk3, hk4, hk5, hk6, hk7.out, hk8, hk4b]
   go_enter Tryz.func166, Tryz.ntmps166
   go_upto_region 16 with (first
   | (go_at_call 132; (with_reducible refine Calls.mono (isKey_is hk1 (by omega) _) ?_); rintro e w1 ⟨rfl, hb1⟩; replace he := he.trans hb1; replace hX := Lib.hid (hX.out.ext hb1); clear hb1; (try clear p q lt); obtain ⟨p, q⟩ := hX.out.walk; have lt := hX.out.lt)
   | (go_at_call 159; (with_reducible refine Calls.mono (sOut_is hk2 _) ?_); rintro e w2 ⟨rfl, rfl⟩; (try simp only [Bool.not_true, Bool.not_false]))
   | (go_at_call 125; (with_reducible refine Calls.mono (sMom_is hk3 _) ?_); rintro e w3 ⟨rfl, hb1⟩; replace he := he.trans hb1; replace hX := Lib.hid (hX.out.ext hb1); clear hb1; (try clear p q lt); obtain ⟨p, q⟩ := hX.out.walk; have lt := hX.out.lt; (try simp only [Bool.not_true, Bool.not_false, if_true, if_false, Bool.false_eq_true]))
   | (go_at_call 159; (with_reducible refine Calls.mono (sOut_is hk4 _) ?_); rintro e w4 ⟨rfl, rfl⟩; (try simp only [Bool.not_true, Bool.not_false]))
   | (go_at_call 132; (with_reducible refine Calls.mono (isKey_is hk5 (by omega) _) ?_); rintro e w5 ⟨rfl, hb1⟩; replace he := he.trans hb1; replace hX := Lib.hid (hX.out.ext hb1); clear hb1; (try clear p q lt); obtain ⟨p, q⟩ := hX.out.walk; have lt := hX.out.lt)
   | (go_at_call 159; (with_reducible refine Calls.mono (sOut_is hk6 _) ?_); rintro e w6 ⟨rfl, rfl⟩; (try simp only [Bool.not_true, Bool.not_false]))
   | (go_at_call 132; (with_reducible refine Calls.mono (isKey_is hk8 (by omega) _) ?_); rintro e w8 ⟨rfl, hb1⟩; replace he := he.trans hb1; replace hX := Lib.hid (hX.out.ext hb1); clear hb1; (try clear p q lt); obtain ⟨p, q⟩ := hX.out.walk; have lt := hX.out.lt))
   have hEw := he
   replace he := Lib.hid he; clear p q lt c0 c1 c2 c3 c4 c5 c6
   rcases Nat.eq_zero_or_pos k with hk0 | hk0
   ·subst hk0
    have hz0 : ((0 : Nat) : Int) = 0 := rfl
    refine wp_region_facts [] [([],false,false),([0],false,false),([0,1],false,false),([0,1,2],false,false),([0,1,2],false,false),([0,1,2,4],false,false),([0,1,2,3,4,5],false,false),([0,1,2,3,4,5,6],false,false),([0,1,2],false,false),([0,1,2,3,4,5,6,7,8],false,false),([0,1,2,3,4,5,6,7,8,9],false,false),([0,1,2,3,4,5,6,7,8,9,10],false,false),([0,1,2,3,4,5,6,7,8,9,10,11],false,false)] (Ext) Ext (fun _ => True) (by kernel_rfl) (by kernel_rfl) Ext.refl (fun _ _ _ => Ext.trans) (fun _ _ h => h) (fun _ _ h => h.size) (fun _ _ h _ => h) trivial ?_
    dsimp only [List.length_cons, List.length_nil, List.drop_succ_cons, List.drop_zero, List.drop_nil]
    refine fq 0 rfl rfl rfl cK rfl rfl ?_; apply Exists.intro; constructor
    ·intro sv w' hw' hfa
     refine ⟨rfl, ?_⟩; simp only [putsL]; change qT _; simp only [qT, Act.put, sIA, sCS, sCZ]; simp [go_sem, quietTo, Ext.refl]; all_goals rfl
    refine fq 1 rfl rfl rfl cK rfl rfl ?_; apply Exists.intro; constructor
    ·rintro sv w' hw' ⟨(f0 : sv 0 = _), -⟩; (try dsimp only at f0)
     refine ⟨rfl, ?_⟩; simp only [putsL]; change qT (pT _ 58 (sv 0)); simp only [qT, pT, Act.put, sIA, sCS, sCZ]; simp [go_sem, quietTo, Ext.refl, ↓IntWalk.iteOmega, f0, hz0]; (all_goals try simp (disch := omega) only [IntWalk.i64_in]); all_goals rfl
    refine fq 2 rfl rfl rfl cK rfl rfl ?_; apply Exists.intro; constructor
    ·rintro sv w' hw' ⟨_, (f1 : sv 1 = _), -⟩; (try dsimp only at f1)
     refine ⟨rfl, ?_⟩; simp only [putsL]; change qT (pT (pT _ 59 (sv 1)) 58 (sv 0)); simp only [qT, pT, Act.put, sIA, sCS, sCZ]; simp [go_sem, quietTo, Ext.refl, f1]; all_goals rfl
    refine fac_skip 3 rfl rfl rfl cK Ext.refl ?_ ?_
    ·intro sv w' hw' hfa
     obtain ⟨(f0 : sv 0 = _), (f1 : sv 1 = _), (f2 : sv 2 = _), -⟩ := hfa; (try dsimp only at f0 f1 f2)
     simp [Region.wanted, yielded, putsL, Act.put, f2]
    refine fac_skip 4 rfl rfl rfl cK Ext.refl ?_ ?_
    ·intro sv w' hw' hfa
     obtain ⟨(f0 : sv 0 = _), (f1 : sv 1 = _), (f2 : sv 2 = _), -⟩ := hfa; (try dsimp only at f0 f1 f2)
     simp [Region.wanted, yielded, putsL, Act.put, f2]
    refine fac_skip 5 rfl rfl rfl cK Ext.refl ?_ ?_
    ·intro sv w' hw' hfa
     obtain ⟨(f0 : sv 0 = _), (f1 : sv 1 = _), (f2 : sv 2 = _), (f4 : sv 4 = _), -⟩ := hfa; (try dsimp only at f0 f1 f2 f4)
     simp [Region.wanted, yielded, putsL, Act.put, f2, f4]
    refine fac_skip 6 rfl rfl rfl cK Ext.refl ?_ ?_
    ·intro sv w' hw' hfa
     obtain ⟨(f0 : sv 0 = _), (f1 : sv 1 = _), (f2 : sv 2 = _), (f3 : sv 3 = _), (f4 : sv 4 = _), (f5 : sv 5 = _), -⟩ := hfa; (try dsimp only at f0 f1 f2 f3 f4 f5)
     simp [Region.wanted, yielded, putsL, Act.put, f2, f3, f5]
    refine fac_skip 7 rfl rfl rfl cK Ext.refl ?_ ?_
    ·intro sv w' hw' hfa
     obtain ⟨(f0 : sv 0 = _), (f1 : sv 1 = _), (f2 : sv 2 = _), (f3 : sv 3 = _), (f4 : sv 4 = _), (f5 : sv 5 = _), (f6 : sv 6 = _), -⟩ := hfa; (try dsimp only at f0 f1 f2 f3 f4 f5 f6)
     simp [Region.wanted, yielded, putsL, Act.put, f2, f6]
    refine fac_skip 8 rfl rfl rfl cK Ext.refl ?_ ?_
    ·intro sv w' hw' hfa
     obtain ⟨(f0 : sv 0 = _), (f1 : sv 1 = _), (f2 : sv 2 = _), -⟩ := hfa; (try dsimp only at f0 f1 f2)
     simp [Region.wanted, yielded, putsL, Act.put, f2]
    refine fac_skip 9 rfl rfl rfl cK Ext.refl ?_ ?_
    ·intro sv w' hw' hfa
     obtain ⟨(f0 : sv 0 = _), (f1 : sv 1 = _), (f2 : sv 2 = _), (f3 : sv 3 = _), (f4 : sv 4 = _), (f5 : sv 5 = _), (f6 : sv 6 = _), (f7 : sv 7 = _), (f8 : sv 8 = _), -⟩ := hfa; (try dsimp only at f0 f1 f2 f3 f4 f5 f6 f7 f8)
     simp [Region.wanted, yielded, putsL, Act.put, f2, f7, f8]
    refine fac_skip 10 rfl rfl rfl cK Ext.refl ?_ ?_
    ·intro sv w' hw' hfa
     obtain ⟨(f0 : sv 0 = _), (f1 : sv 1 = _), (f2 : sv 2 = _), (f3 : sv 3 = _), (f4 : sv 4 = _), (f5 : sv 5 = _), (f6 : sv 6 = _), (f7 : sv 7 = _), (f8 : sv 8 = _), (f9 : sv 9 = _), -⟩ := hfa; (try dsimp only at f0 f1 f2 f3 f4 f5 f6 f7 f8 f9)
     simp [Region.wanted, yielded, putsL, Act.put, f2, f9]
    refine fq 11 rfl rfl rfl cK rfl rfl ?_; apply Exists.intro; constructor
    ·rintro sv w' hw' ⟨_, _, (f2 : sv 2 = _), _, _, _, _, _, _, _, (f10 : sv 10 = _), -⟩; (try dsimp only at f2 f10)
     refine ⟨rfl, ?_⟩; simp only [putsL]; change qT (pT (pT (pT (pT (pT (pT (pT (pT (pT (pT (pT _ 68 (sv 10)) 67 (sv 9)) 66 (sv 8)) 65 (sv 7)) 64 (sv 6)) 63 (sv 5)) 62 (sv 4)) 61 (sv 3)) 60 (sv 2)) 59 (sv 1)) 58 (sv 0)); simp only [qT, pT, Act.put, sIA, sCS, sCZ]; simp [go_sem, quietTo, Ext.refl, ↓IntWalk.iteOmega, f2, f10, hz0]; (all_goals try simp (disch := omega) only [IntWalk.i64_in]); all_goals rfl
    refine fq 12 rfl rfl rfl cK rfl rfl ?_; apply Exists.intro; constructor
    ·rintro sv w' hw' ⟨_, _, _, _, _, _, _, _, _, _, _, (f11 : sv 11 = _), -⟩; (try dsimp only at f11)
     refine ⟨rfl, ?_⟩; simp only [putsL]; change qT (pT (pT (pT (pT (pT (pT (pT (pT (pT (pT (pT (pT _ 69 (sv 11)) 68 (sv 10)) 67 (sv 9)) 66 (sv 8)) 65 (sv 7)) 64 (sv 6)) 63 (sv 5)) 62 (sv 4)) 61 (sv 3)) 60 (sv 2)) 59 (sv 1)) 58 (sv 0)); simp only [qT, pT, Act.put, sIA, sCS, sCZ]; simp [go_sem, quietTo, Ext.refl, f11]; all_goals rfl
    refine fac_nil fun xa wra hera hfra hcra holda hapa => ?_
    obtain ⟨(f0 : xa 0 = _), (f1 : xa 1 = _), (f2 : xa 2 = _), (f3 : xa 3 = _), (f4 : xa 4 = _), (f5 : xa 5 = _), (f6 : xa 6 = _), (f7 : xa 7 = _), (f8 : xa 8 = _), (f9 : xa 9 = _), (f10 : xa 10 = _), (f11 : xa 11 = _), (f12 : xa 12 = _), -⟩ := hfra; (try dsimp only at f0 f1 f2 f3 f4 f5 f6 f7 f8 f9 f10 f11 f12)
    change wpList _ _ _ _ (pT (pT (pT (pT (pT (pT (pT (pT (pT (pT (pT (pT (pT _ 58 (xa 0)) 59 (xa 1)) 60 (xa 2)) 61 (xa 3)) 62 (xa 4)) 63 (xa 5)) 64 (xa 6)) 65 (xa 7)) 66 (xa 8)) 67 (xa 9)) 68 (xa 10)) 69 (xa 11)) 57 (xa 12)) _
    simp only [putsL, Nat.reduceAdd, List.drop_succ_cons, List.drop_zero, List.drop_nil, pT, Act.put, sIA, sCS, sCZ]
    try simp only [f0, f1, f2, f3, f4, f5, f6, f7, f8, f9, f10, f11, f12]
    clear f0 f1 f2 f3 f4 f5 f6 f7 f8 f9 f10 f11 f12; clear holda hapa; clear hprev hEw hX
    go_wp2
    go_ret
    exact ⟨ret_int (by rw [hv.out, hq]; rfl), he.out.trans ((Ext.refl _).drew.trans hera)⟩
   ·obtain ⟨j, rfl⟩ : ∃ j, k = j + 1 := ⟨k - 1, by omega⟩
    obtain ⟨y, hy⟩ := getD_some hl.out (show j < n by omega)
    obtain ⟨d0, d1, d2, d3, d4, d5, d6⟩ := hprev.out j y rfl hy
    have hat : atL default xs (j + 1 - 1) = y := by rw [Nat.add_sub_cancel]; exact atL_of hy
    have hv' := hv.out
    clear hv
    rw [hat] at hv'
    have hv := Lib.hid hv'
    clear hv'
    have hwj : IntKind.i64.wrap (j : Int) = j := IntWalk.i64_in _ (by omega)
    have hjl : (j : Int) < n := by omega
    have hj0 : 0 < (j : Int) + 1 := by omega
    clear hat hy hprev
    rcases sliO_three y x with hlc | hlc | hlc
    all_goals
     refine wp_region_facts [] [([],false,false),([0],false,false),([0,1],false,false),([0,1,2],false,false),([0,1,2],false,false),([0,1,2,4],false,false),([0,1,2,3,4,5],false,false),([0,1,2,3,4,5,6],false,false),([0,1,2],false,false),([0,1,2,3,4,5,6,7,8],false,false),([0,1,2,3,4,5,6,7,8,9],false,false),([0,1,2,3,4,5,6,7,8,9,10],false,false),([0,1,2,3,4,5,6,7,8,9,10,11],false,false)] (Ext) Ext (fun _ => True) (by kernel_rfl) (by kernel_rfl) Ext.refl (fun _ _ _ => Ext.trans) (fun _ _ h => h) (fun _ _ h => h.size) (fun _ _ h _ => h) trivial ?_
     dsimp only [List.length_cons, List.length_nil, List.drop_succ_cons, List.drop_zero, List.drop_nil]
     refine fq 0 rfl rfl rfl cK rfl rfl ?_; apply Exists.intro; constructor
     ·intro sv w' hw' hfa
      refine ⟨rfl, ?_⟩; simp only [putsL]; change qT _; simp only [qT, Act.put, sIA, sCS, sCZ]; simp [go_sem, quietTo, Ext.refl]; all_goals rfl
     refine fq 1 rfl rfl rfl cK rfl rfl ?_; apply Exists.intro; constructor
     ·rintro sv w' hw' ⟨(f0 : sv 0 = _), -⟩; (try dsimp only at f0)
      refine ⟨rfl, ?_⟩; simp only [putsL]; change qT (pT _ 58 (sv 0)); simp only [qT, pT, Act.put, sIA, sCS, sCZ]; simp [go_sem, quietTo, Ext.refl, ↓IntWalk.iteOmega, f0, hj0]; (all_goals try simp (disch := omega) only [IntWalk.i64_in]); all_goals rfl
     refine fq 2 rfl rfl rfl cK rfl rfl ?_; apply Exists.intro; constructor
     ·rintro sv w' hw' ⟨_, (f1 : sv 1 = _), -⟩; (try dsimp only at f1)
      refine ⟨rfl, ?_⟩; simp only [putsL]; change qT (pT (pT _ 59 (sv 1)) 58 (sv 0)); simp only [qT, pT, Act.put, sIA, sCS, sCZ]; simp [go_sem, quietTo, Ext.refl, f1]; all_goals rfl
     refine fq 3 rfl rfl rfl cK rfl rfl ?_; apply Exists.intro; constructor
     ·rintro sv w' hw' ⟨_, _, (f2 : sv 2 = _), -⟩; (try dsimp only at f2)
      refine ⟨by simp [Region.wanted, yielded, putsL, Act.put, f2], ?_⟩; simp only [putsL]; change qT (pT (pT (pT _ 60 (sv 2)) 59 (sv 1)) 58 (sv 0)); simp only [qT, pT, Act.put, sIA, sCS, sCZ]; simp [go_sem, quietTo, Ext.refl, f2]; all_goals rfl
     refine fq 4 rfl rfl rfl cK rfl rfl ?_; apply Exists.intro; constructor
     ·rintro sv w' hw' ⟨_, _, (f2 : sv 2 = _), -⟩; (try dsimp only at f2)
      refine ⟨by simp [Region.wanted, yielded, putsL, Act.put, f2], ?_⟩; simp only [putsL]; change qT (pT (pT (pT _ 60 (sv 2)) 59 (sv 1)) 58 (sv 0)); simp only [qT, pT, Act.put, sIA, sCS, sCZ]; simp [go_sem, quietTo, Ext.refl, f2]; all_goals rfl
     refine fq 5 rfl rfl rfl cK rfl rfl ?_; apply Exists.intro; constructor
     ·rintro sv w' hw' ⟨_, _, (f2 : sv 2 = _), (f4 : sv 4 = _), -⟩; (try dsimp only at f2 f4)
      refine ⟨by simp [Region.wanted, yielded, putsL, Act.put, f2, f4], ?_⟩; simp only [putsL]; change qT (pT (pT (pT (pT _ 62 (sv 4)) 60 (sv 2)) 59 (sv 1)) 58 (sv 0)); simp only [qT, pT, Act.put, sIA, sCS, sCZ]; simp [go_sem, quietTo, Ext.refl, ↓IntWalk.iteOmega, f2, f4, hwj]; (all_goals try simp (disch := omega) only [IntWalk.i64_in]); all_goals rfl
     refine fq 6 rfl rfl rfl cK rfl rfl ?_; apply Exists.intro; constructor
     ·rintro sv w' hw' ⟨_, _, (f2 : sv 2 = _), (f3 : sv 3 = _), _, (f5 : sv 5 = _), -⟩; (try dsimp only at f2 f3 f5)
      refine ⟨by simp [Region.wanted, yielded, putsL, Act.put, f2, f3, f5], ?_⟩; simp only [putsL]; change qT (pT (pT (pT (pT (pT (pT _ 63 (sv 5)) 62 (sv 4)) 61 (sv 3)) 60 (sv 2)) 59 (sv 1)) 58 (sv 0)); simp only [qT, pT, Act.put, sIA, sCS, sCZ]; simp [go_sem, quietTo, Ext.refl, ↓IntWalk.iteOmega, f2, f3, f5, hjl]; (all_goals try simp (disch := omega) only [IntWalk.i64_in]); all_goals rfl
     refine fq 7 rfl rfl rfl cK rfl rfl ?_; apply Exists.intro; constructor
     ·rintro sv w' hw' ⟨_, _, (f2 : sv 2 = _), _, _, _, (f6 : sv 6 = _), -⟩; (try dsimp only at f2 f6)
      obtain ⟨hc, hf, hz9⟩ := (hEw.drew.trans hw').walk; have y0 := (hc _ (off + j * 7) hb).trans d0; have y1 := (hc _ (off + j * 7 + 1) hb).trans d1; have y2 := (hc _ (off + j * 7 + 2) hb).trans d2; have y3 := (hc _ (off + j * 7 + 3) hb).trans d3; have y4 := (hc _ (off + j * 7 + 4) hb).trans d4; have y5 := (hc _ (off + j * 7 + 5) hb).trans d5; have y6 := (hc _ (off + j * 7 + 6) hb).trans d6
      refine ⟨by simp [Region.wanted, yielded, putsL, Act.put, f2, f6], ?_⟩; simp only [putsL]; change qT (pT (pT (pT (pT (pT (pT (pT _ 64 (sv 6)) 63 (sv 5)) 62 (sv 4)) 61 (sv 3)) 60 (sv 2)) 59 (sv 1)) 58 (sv 0)); simp only [qT, pT, Act.put, sIA, sCS, sCZ]; simp [go_sem, quietTo, Ext.refl, ↓IntWalk.iteOmega, f2, f6, y0, y1, y2, y3, y4, y5, y6]; (all_goals try simp (disch := omega) only [IntWalk.i64_in]); all_goals rfl
     refine fq 8 rfl rfl rfl cK rfl rfl ?_; apply Exists.intro; constructor
     ·rintro sv w' hw' ⟨_, _, (f2 : sv 2 = _), -⟩; (try dsimp only at f2)
      obtain ⟨hc2, hf2, hz8⟩ := ((Ext.refl _).drew.trans hw').walk; have x0 := (hc2 _ 0 hX.out.lt).trans (hX.out.cell 0); have x1 := (hc2 _ 1 hX.out.lt).trans (hX.out.cell 1); have x2 := (hc2 _ 2 hX.out.lt).trans (hX.out.cell 2); have x3 := (hc2 _ 3 hX.out.lt).trans (hX.out.cell 3); have x4 := (hc2 _ 4 hX.out.lt).trans (hX.out.cell 4); have x5 := (hc2 _ 5 hX.out.lt).trans (hX.out.cell 5); have x6 := (hc2 _ 6 hX.out.lt).trans (hX.out.cell 6)
      refine ⟨by simp [Region.wanted, yielded, putsL, Act.put, f2], ?_⟩; simp only [putsL]; change qT (pT (pT (pT _ 60 (sv 2)) 59 (sv 1)) 58 (sv 0)); simp only [qT, pT, Act.put, sIA, sCS, sCZ]; simp [go_sem, quietTo, Ext.refl, ↓IntWalk.iteOmega, f2, x0, x1, x2, x3, x4, x5, x6]; (all_goals try simp (disch := omega) only [IntWalk.i64_in]); all_goals rfl
     refine fq 9 rfl rfl rfl cK rfl rfl ?_; apply Exists.intro; constructor
     ·rintro sv w' hw' ⟨(f0 : sv 0 = _), (f1 : sv 1 = _), (f2 : sv 2 = _), (f3 : sv 3 = _), (f4 : sv 4 = _), (f5 : sv 5 = _), (f6 : sv 6 = _), (f7 : sv 7 = _), (f8 : sv 8 = _), -⟩; (try dsimp only at f0 f1 f2 f3 f4 f5 f6 f7 f8)
      refine ⟨by simp [Region.wanted, yielded, putsL, Act.put, f2, f7, f8], ?_⟩; simp only [putsL]; change qT (pT (pT (pT (pT (pT (pT (pT (pT (pT _ 66 (sv 8)) 65 (sv 7)) 64 (sv 6)) 63 (sv 5)) 62 (sv 4)) 61 (sv 3)) 60 (sv 2)) 59 (sv 1)) 58 (sv 0)); simp only [qT, pT, Act.put, sIA, sCS, sCZ]; simp [go_sem, quietTo, Ext.refl, ↓IntWalk.iteOmega, f2, f7, f8]; (all_goals try simp (disch := omega) only [IntWalk.i64_in]); all_goals first | rfl | (exact sliOwn_any y x _)
     refine fq 10 rfl rfl rfl cK rfl rfl ?_; apply Exists.intro; constructor
     ·rintro sv w' hw' ⟨_, _, (f2 : sv 2 = _), _, _, _, _, _, _, (f9 : sv 9 = _), -⟩; (try dsimp only at f2 f9)
      refine ⟨by simp [Region.wanted, yielded, putsL, Act.put, f2, f9], ?_⟩; simp only [putsL]; change qT (pT (pT (pT (pT (pT (pT (pT (pT (pT (pT _ 67 (sv 9)) 66 (sv 8)) 65 (sv 7)) 64 (sv 6)) 63 (sv 5)) 62 (sv 4)) 61 (sv 3)) 60 (sv 2)) 59 (sv 1)) 58 (sv 0)); simp only [qT, pT, Act.put, sIA, sCS, sCZ]; simp [go_sem, quietTo, Ext.refl, ↓IntWalk.iteOmega, f2, f9, hlc]; (all_goals try simp (disch := omega) only [IntWalk.i64_in]); all_goals rfl
     refine fq 11 rfl rfl rfl cK rfl rfl ?_; apply Exists.intro; constructor
     ·rintro sv w' hw' ⟨_, _, (f2 : sv 2 = _), _, _, _, _, _, _, _, (f10 : sv 10 = _), -⟩; (try dsimp only at f2 f10)
      refine ⟨rfl, ?_⟩; simp only [putsL]; change qT (pT (pT (pT (pT (pT (pT (pT (pT (pT (pT (pT _ 68 (sv 10)) 67 (sv 9)) 66 (sv 8)) 65 (sv 7)) 64 (sv 6)) 63 (sv 5)) 62 (sv 4)) 61 (sv 3)) 60 (sv 2)) 59 (sv 1)) 58 (sv 0)); simp only [qT, pT, Act.put, sIA, sCS, sCZ]; simp [go_sem, quietTo, Ext.refl, ↓IntWalk.iteOmega, f2, f10]; (all_goals try simp (disch := omega) only [IntWalk.i64_in]); all_goals rfl
     refine fq 12 rfl rfl rfl cK rfl rfl ?_; apply Exists.intro; constructor
     ·rintro sv w' hw' ⟨_, _, _, _, _, _, _, _, _, _, _, (f11 : sv 11 = _), -⟩; (try dsimp only at f11)
      refine ⟨rfl, ?_⟩; simp only [putsL]; change qT (pT (pT (pT (pT (pT (pT (pT (pT (pT (pT (pT (pT _ 69 (sv 11)) 68 (sv 10)) 67 (sv 9)) 66 (sv 8)) 65 (sv 7)) 64 (sv 6)) 63 (sv 5)) 62 (sv 4)) 61 (sv 3)) 60 (sv 2)) 59 (sv 1)) 58 (sv 0)); simp only [qT, pT, Act.put, sIA, sCS, sCZ]; simp [go_sem, quietTo, Ext.refl, f11]; all_goals rfl
     refine fac_nil fun xb wrb herb hfrb hcrb holdb hapb => ?_
     obtain ⟨(f0 : xb 0 = _), (f1 : xb 1 = _), (f2 : xb 2 = _), (f3 : xb 3 = _), (f4 : xb 4 = _), (f5 : xb 5 = _), (f6 : xb 6 = _), (f7 : xb 7 = _), (f8 : xb 8 = _), (f9 : xb 9 = _), (f10 : xb 10 = _), (f11 : xb 11 = _), (f12 : xb 12 = _), -⟩ := hfrb; (try dsimp only at f0 f1 f2 f3 f4 f5 f6 f7 f8 f9 f10 f11 f12)
     change wpList _ _ _ _ (pT (pT (pT (pT (pT (pT (pT (pT (pT (pT (pT (pT (pT _ 58 (xb 0)) 59 (xb 1)) 60 (xb 2)) 61 (xb 3)) 62 (xb 4)) 63 (xb 5)) 64 (xb 6)) 65 (xb 7)) 66 (xb 8)) 67 (xb 9)) 68 (xb 10)) 69 (xb 11)) 57 (xb 12)) _
     simp only [putsL, Nat.reduceAdd, List.drop_succ_cons, List.drop_zero, List.drop_nil, pT, Act.put, sIA, sCS, sCZ]
     try simp only [f0, f1, f2, f3, f4, f5, f6, f7, f8, f9, f10, f11, f12]
     clear f0 f1 f2 f3 f4 f5 f6 f7 f8 f9 f10 f11 f12; clear holdb hapb; clear hX d0 d1 d2 d3 d4 d5 d6 hEw
     go_wp2
     go_ret
     exact ⟨ret_int (by rw [hv.out, hq, hlc]; simp), he.out.trans ((Ext.refl _).drew.trans herb)⟩
 ·have hk7b : decide (x.kind = 1) = false := by simp [hk7]
  replace hk7 := Lib.hid hk7
  by_cases hk9 : x.singer = ⟨#[]⟩
  rotate_left
  ·have hq : slipE x = 3 := by unfold slipE; simp [hk1, hk2, hk3, hk4, hk5, hk6, hk7.out, hk9]
   have g1 : x.singer.toList.isEmpty = false := by
    cases hh : x.singer.toList.isEmpty with
    | false => rfl
    | true => exact absurd (empty_ba hh) hk9
   have g2 : ¬ x.singer.toList = [] := fun e => by rw [e] at g1; cases g1
   go_enter Tryz.func166, Tryz.ntmps166
   go_wp2_with (first
   | (go_at_call 132; (with_reducible refine Calls.mono (isKey_is hk1 (by omega) _) ?_); rintro e w1 ⟨rfl, hb1⟩; replace he := he.trans hb1; replace hX := Lib.hid (hX.out.ext hb1); clear hb1; (try clear p q lt); obtain ⟨p, q⟩ := hX.out.walk; have lt := hX.out.lt)
   | (go_at_call 159; (with_reducible refine Calls.mono (sOut_is hk2 _) ?_); rintro e w2 ⟨rfl, rfl⟩; (try simp only [Bool.not_true, Bool.not_false]))
   | (go_at_call 125; (with_reducible refine Calls.mono (sMom_is hk3 _) ?_); rintro e w3 ⟨rfl, hb1⟩; replace he := he.trans hb1; replace hX := Lib.hid (hX.out.ext hb1); clear hb1; (try clear p q lt); obtain ⟨p, q⟩ := hX.out.walk; have lt := hX.out.lt; (try simp only [Bool.not_true, Bool.not_false, if_true, if_false, Bool.false_eq_true]))
   | (go_at_call 159; (with_reducible refine Calls.mono (sOut_is hk4 _) ?_); rintro e w4 ⟨rfl, rfl⟩; (try simp only [Bool.not_true, Bool.not_false]))
   | (go_at_call 132; (with_reducible refine Calls.mono (isKey_is hk5 (by omega) _) ?_); rintro e w5 ⟨rfl, hb1⟩; replace he := he.trans hb1; replace hX := Lib.hid (hX.out.ext hb1); clear hb1; (try clear p q lt); obtain ⟨p, q⟩ := hX.out.walk; have lt := hX.out.lt)
   | (go_at_call 159; (with_reducible refine Calls.mono (sOut_is hk6 _) ?_); rintro e w6 ⟨rfl, rfl⟩; (try simp only [Bool.not_true, Bool.not_false])))
   go_ret
   exact ⟨ret_int (by rw [hvE.out (by rw [hq]; decide), hq]), he⟩
  ·have g1 : x.singer.toList.isEmpty = true := by rw [hk9, Lib.toList_data]; rfl
   have g2 : x.singer.toList = [] := by rw [hk9, Lib.toList_data]
   replace hk9 := Lib.hid hk9
   have hq : slipE x = 0 := by unfold slipE; simp [hk1, hk2, hk3, hk4, hk5, hk6, hk7.out, hk9.out]
   go_enter Tryz.func166, Tryz.ntmps166
   go_upto_region 16 with (first
   | (go_at_call 132; (with_reducible refine Calls.mono (isKey_is hk1 (by omega) _) ?_); rintro e w1 ⟨rfl, hb1⟩; replace he := he.trans hb1; replace hX := Lib.hid (hX.out.ext hb1); clear hb1; (try clear p q lt); obtain ⟨p, q⟩ := hX.out.walk; have lt := hX.out.lt)
   | (go_at_call 159; (with_reducible refine Calls.mono (sOut_is hk2 _) ?_); rintro e w2 ⟨rfl, rfl⟩; (try simp only [Bool.not_true, Bool.not_false]))
   | (go_at_call 125; (with_reducible refine Calls.mono (sMom_is hk3 _) ?_); rintro e w3 ⟨rfl, hb1⟩; replace he := he.trans hb1; replace hX := Lib.hid (hX.out.ext hb1); clear hb1; (try clear p q lt); obtain ⟨p, q⟩ := hX.out.walk; have lt := hX.out.lt; (try simp only [Bool.not_true, Bool.not_false, if_true, if_false, Bool.false_eq_true]))
   | (go_at_call 159; (with_reducible refine Calls.mono (sOut_is hk4 _) ?_); rintro e w4 ⟨rfl, rfl⟩; (try simp only [Bool.not_true, Bool.not_false]))
   | (go_at_call 132; (with_reducible refine Calls.mono (isKey_is hk5 (by omega) _) ?_); rintro e w5 ⟨rfl, hb1⟩; replace he := he.trans hb1; replace hX := Lib.hid (hX.out.ext hb1); clear hb1; (try clear p q lt); obtain ⟨p, q⟩ := hX.out.walk; have lt := hX.out.lt)
   | (go_at_call 159; (with_reducible refine Calls.mono (sOut_is hk6 _) ?_); rintro e w6 ⟨rfl, rfl⟩; (try simp only [Bool.not_true, Bool.not_false])))
   have hEw := he
   replace he := Lib.hid he; clear p q lt c0 c1 c2 c3 c4 c5 c6
   rcases Nat.eq_zero_or_pos k with hk0 | hk0
   ·subst hk0
    have hz0 : ((0 : Nat) : Int) = 0 := rfl
    refine wp_region_facts [] [([],false,false),([0],false,false),([0,1],false,false),([0,1,2],false,false),([0,1,2],false,false),([0,1,2,4],false,false),([0,1,2,3,4,5],false,false),([0,1,2,3,4,5,6],false,false),([0,1,2],false,false),([0,1,2,3,4,5,6,7,8],false,false),([0,1,2,3,4,5,6,7,8,9],false,false),([0,1,2,3,4,5,6,7,8,9,10],false,false),([0,1,2,3,4,5,6,7,8,9,10,11],false,false)] (Ext) Ext (fun _ => True) (by kernel_rfl) (by kernel_rfl) Ext.refl (fun _ _ _ => Ext.trans) (fun _ _ h => h) (fun _ _ h => h.size) (fun _ _ h _ => h) trivial ?_
    dsimp only [List.length_cons, List.length_nil, List.drop_succ_cons, List.drop_zero, List.drop_nil]
    refine fq 0 rfl rfl rfl cK rfl rfl ?_; apply Exists.intro; constructor
    ·intro sv w' hw' hfa
     refine ⟨rfl, ?_⟩; simp only [putsL]; change qT _; simp only [qT, Act.put, sIA, sCS, sCZ]; simp [go_sem, quietTo, Ext.refl]; all_goals rfl
    refine fq 1 rfl rfl rfl cK rfl rfl ?_; apply Exists.intro; constructor
    ·rintro sv w' hw' ⟨(f0 : sv 0 = _), -⟩; (try dsimp only at f0)
     refine ⟨rfl, ?_⟩; simp only [putsL]; change qT (pT _ 58 (sv 0)); simp only [qT, pT, Act.put, sIA, sCS, sCZ]; simp [go_sem, quietTo, Ext.refl, ↓IntWalk.iteOmega, f0, hz0]; (all_goals try simp (disch := omega) only [IntWalk.i64_in]); all_goals rfl
    refine fq 2 rfl rfl rfl cK rfl rfl ?_; apply Exists.intro; constructor
    ·rintro sv w' hw' ⟨_, (f1 : sv 1 = _), -⟩; (try dsimp only at f1)
     refine ⟨rfl, ?_⟩; simp only [putsL]; change qT (pT (pT _ 59 (sv 1)) 58 (sv 0)); simp only [qT, pT, Act.put, sIA, sCS, sCZ]; simp [go_sem, quietTo, Ext.refl, f1]; all_goals rfl
    refine fac_skip 3 rfl rfl rfl cK Ext.refl ?_ ?_
    ·intro sv w' hw' hfa
     obtain ⟨(f0 : sv 0 = _), (f1 : sv 1 = _), (f2 : sv 2 = _), -⟩ := hfa; (try dsimp only at f0 f1 f2)
     simp [Region.wanted, yielded, putsL, Act.put, f2]
    refine fac_skip 4 rfl rfl rfl cK Ext.refl ?_ ?_
    ·intro sv w' hw' hfa
     obtain ⟨(f0 : sv 0 = _), (f1 : sv 1 = _), (f2 : sv 2 = _), -⟩ := hfa; (try dsimp only at f0 f1 f2)
     simp [Region.wanted, yielded, putsL, Act.put, f2]
    refine fac_skip 5 rfl rfl rfl cK Ext.refl ?_ ?_
    ·intro sv w' hw' hfa
     obtain ⟨(f0 : sv 0 = _), (f1 : sv 1 = _), (f2 : sv 2 = _), (f4 : sv 4 = _), -⟩ := hfa; (try dsimp only at f0 f1 f2 f4)
     simp [Region.wanted, yielded, putsL, Act.put, f2, f4]
    refine fac_skip 6 rfl rfl rfl cK Ext.refl ?_ ?_
    ·intro sv w' hw' hfa
     obtain ⟨(f0 : sv 0 = _), (f1 : sv 1 = _), (f2 : sv 2 = _), (f3 : sv 3 = _), (f4 : sv 4 = _), (f5 : sv 5 = _), -⟩ := hfa; (try dsimp only at f0 f1 f2 f3 f4 f5)
     simp [Region.wanted, yielded, putsL, Act.put, f2, f3, f5]
    refine fac_skip 7 rfl rfl rfl cK Ext.refl ?_ ?_
    ·intro sv w' hw' hfa
     obtain ⟨(f0 : sv 0 = _), (f1 : sv 1 = _), (f2 : sv 2 = _), (f3 : sv 3 = _), (f4 : sv 4 = _), (f5 : sv 5 = _), (f6 : sv 6 = _), -⟩ := hfa; (try dsimp only at f0 f1 f2 f3 f4 f5 f6)
     simp [Region.wanted, yielded, putsL, Act.put, f2, f6]
    refine fac_skip 8 rfl rfl rfl cK Ext.refl ?_ ?_
    ·intro sv w' hw' hfa
     obtain ⟨(f0 : sv 0 = _), (f1 : sv 1 = _), (f2 : sv 2 = _), -⟩ := hfa; (try dsimp only at f0 f1 f2)
     simp [Region.wanted, yielded, putsL, Act.put, f2]
    refine fac_skip 9 rfl rfl rfl cK Ext.refl ?_ ?_
    ·intro sv w' hw' hfa
     obtain ⟨(f0 : sv 0 = _), (f1 : sv 1 = _), (f2 : sv 2 = _), (f3 : sv 3 = _), (f4 : sv 4 = _), (f5 : sv 5 = _), (f6 : sv 6 = _), (f7 : sv 7 = _), (f8 : sv 8 = _), -⟩ := hfa; (try dsimp only at f0 f1 f2 f3 f4 f5 f6 f7 f8)
     simp [Region.wanted, yielded, putsL, Act.put, f2, f7, f8]
    refine fac_skip 10 rfl rfl rfl cK Ext.refl ?_ ?_
    ·intro sv w' hw' hfa
     obtain ⟨(f0 : sv 0 = _), (f1 : sv 1 = _), (f2 : sv 2 = _), (f3 : sv 3 = _), (f4 : sv 4 = _), (f5 : sv 5 = _), (f6 : sv 6 = _), (f7 : sv 7 = _), (f8 : sv 8 = _), (f9 : sv 9 = _), -⟩ := hfa; (try dsimp only at f0 f1 f2 f3 f4 f5 f6 f7 f8 f9)
     simp [Region.wanted, yielded, putsL, Act.put, f2, f9]
    refine fq 11 rfl rfl rfl cK rfl rfl ?_; apply Exists.intro; constructor
    ·rintro sv w' hw' ⟨_, _, (f2 : sv 2 = _), _, _, _, _, _, _, _, (f10 : sv 10 = _), -⟩; (try dsimp only at f2 f10)
     refine ⟨rfl, ?_⟩; simp only [putsL]; change qT (pT (pT (pT (pT (pT (pT (pT (pT (pT (pT (pT _ 68 (sv 10)) 67 (sv 9)) 66 (sv 8)) 65 (sv 7)) 64 (sv 6)) 63 (sv 5)) 62 (sv 4)) 61 (sv 3)) 60 (sv 2)) 59 (sv 1)) 58 (sv 0)); simp only [qT, pT, Act.put, sIA, sCS, sCZ]; simp [go_sem, quietTo, Ext.refl, ↓IntWalk.iteOmega, f2, f10, hz0]; (all_goals try simp (disch := omega) only [IntWalk.i64_in]); all_goals rfl
    refine fq 12 rfl rfl rfl cK rfl rfl ?_; apply Exists.intro; constructor
    ·rintro sv w' hw' ⟨_, _, _, _, _, _, _, _, _, _, _, (f11 : sv 11 = _), -⟩; (try dsimp only at f11)
     refine ⟨rfl, ?_⟩; simp only [putsL]; change qT (pT (pT (pT (pT (pT (pT (pT (pT (pT (pT (pT (pT _ 69 (sv 11)) 68 (sv 10)) 67 (sv 9)) 66 (sv 8)) 65 (sv 7)) 64 (sv 6)) 63 (sv 5)) 62 (sv 4)) 61 (sv 3)) 60 (sv 2)) 59 (sv 1)) 58 (sv 0)); simp only [qT, pT, Act.put, sIA, sCS, sCZ]; simp [go_sem, quietTo, Ext.refl, f11]; all_goals rfl
    refine fac_nil fun xa wra hera hfra hcra holda hapa => ?_
    obtain ⟨(f0 : xa 0 = _), (f1 : xa 1 = _), (f2 : xa 2 = _), (f3 : xa 3 = _), (f4 : xa 4 = _), (f5 : xa 5 = _), (f6 : xa 6 = _), (f7 : xa 7 = _), (f8 : xa 8 = _), (f9 : xa 9 = _), (f10 : xa 10 = _), (f11 : xa 11 = _), (f12 : xa 12 = _), -⟩ := hfra; (try dsimp only at f0 f1 f2 f3 f4 f5 f6 f7 f8 f9 f10 f11 f12)
    change wpList _ _ _ _ (pT (pT (pT (pT (pT (pT (pT (pT (pT (pT (pT (pT (pT _ 58 (xa 0)) 59 (xa 1)) 60 (xa 2)) 61 (xa 3)) 62 (xa 4)) 63 (xa 5)) 64 (xa 6)) 65 (xa 7)) 66 (xa 8)) 67 (xa 9)) 68 (xa 10)) 69 (xa 11)) 57 (xa 12)) _
    simp only [putsL, Nat.reduceAdd, List.drop_succ_cons, List.drop_zero, List.drop_nil, pT, Act.put, sIA, sCS, sCZ]
    try simp only [f0, f1, f2, f3, f4, f5, f6, f7, f8, f9, f10, f11, f12]
    clear f0 f1 f2 f3 f4 f5 f6 f7 f8 f9 f10 f11 f12; clear holda hapa; clear hprev hEw hX
    go_wp2
    go_ret
    exact ⟨ret_int (by rw [hv.out, hq]; rfl), he.out.trans ((Ext.refl _).drew.trans hera)⟩
   ·obtain ⟨j, rfl⟩ : ∃ j, k = j + 1 := ⟨k - 1, by omega⟩
    obtain ⟨y, hy⟩ := getD_some hl.out (show j < n by omega)
    obtain ⟨d0, d1, d2, d3, d4, d5, d6⟩ := hprev.out j y rfl hy
    have hat : atL default xs (j + 1 - 1) = y := by rw [Nat.add_sub_cancel]; exact atL_of hy
    have hv' := hv.out
    clear hv
    rw [hat] at hv'
    have hv := Lib.hid hv'
    clear hv'
    have hwj : IntKind.i64.wrap (j : Int) = j := IntWalk.i64_in _ (by omega)
    have hjl : (j : Int) < n := by omega
    have hj0 : 0 < (j : Int) + 1 := by omega
    clear hat hy hprev
    rcases sliO_three y x with hlc | hlc | hlc
    all_goals
     refine wp_region_facts [] [([],false,false),([0],false,false),([0,1],false,false),([0,1,2],false,false),([0,1,2],false,false),([0,1,2,4],false,false),([0,1,2,3,4,5],false,false),([0,1,2,3,4,5,6],false,false),([0,1,2],false,false),([0,1,2,3,4,5,6,7,8],false,false),([0,1,2,3,4,5,6,7,8,9],false,false),([0,1,2,3,4,5,6,7,8,9,10],false,false),([0,1,2,3,4,5,6,7,8,9,10,11],false,false)] (Ext) Ext (fun _ => True) (by kernel_rfl) (by kernel_rfl) Ext.refl (fun _ _ _ => Ext.trans) (fun _ _ h => h) (fun _ _ h => h.size) (fun _ _ h _ => h) trivial ?_
     dsimp only [List.length_cons, List.length_nil, List.drop_succ_cons, List.drop_zero, List.drop_nil]
     refine fq 0 rfl rfl rfl cK rfl rfl ?_; apply Exists.intro; constructor
     ·intro sv w' hw' hfa
      refine ⟨rfl, ?_⟩; simp only [putsL]; change qT _; simp only [qT, Act.put, sIA, sCS, sCZ]; simp [go_sem, quietTo, Ext.refl]; all_goals rfl
     refine fq 1 rfl rfl rfl cK rfl rfl ?_; apply Exists.intro; constructor
     ·rintro sv w' hw' ⟨(f0 : sv 0 = _), -⟩; (try dsimp only at f0)
      refine ⟨rfl, ?_⟩; simp only [putsL]; change qT (pT _ 58 (sv 0)); simp only [qT, pT, Act.put, sIA, sCS, sCZ]; simp [go_sem, quietTo, Ext.refl, ↓IntWalk.iteOmega, f0, hj0]; (all_goals try simp (disch := omega) only [IntWalk.i64_in]); all_goals rfl
     refine fq 2 rfl rfl rfl cK rfl rfl ?_; apply Exists.intro; constructor
     ·rintro sv w' hw' ⟨_, (f1 : sv 1 = _), -⟩; (try dsimp only at f1)
      refine ⟨rfl, ?_⟩; simp only [putsL]; change qT (pT (pT _ 59 (sv 1)) 58 (sv 0)); simp only [qT, pT, Act.put, sIA, sCS, sCZ]; simp [go_sem, quietTo, Ext.refl, f1]; all_goals rfl
     refine fq 3 rfl rfl rfl cK rfl rfl ?_; apply Exists.intro; constructor
     ·rintro sv w' hw' ⟨_, _, (f2 : sv 2 = _), -⟩; (try dsimp only at f2)
      refine ⟨by simp [Region.wanted, yielded, putsL, Act.put, f2], ?_⟩; simp only [putsL]; change qT (pT (pT (pT _ 60 (sv 2)) 59 (sv 1)) 58 (sv 0)); simp only [qT, pT, Act.put, sIA, sCS, sCZ]; simp [go_sem, quietTo, Ext.refl, f2]; all_goals rfl
     refine fq 4 rfl rfl rfl cK rfl rfl ?_; apply Exists.intro; constructor
     ·rintro sv w' hw' ⟨_, _, (f2 : sv 2 = _), -⟩; (try dsimp only at f2)
      refine ⟨by simp [Region.wanted, yielded, putsL, Act.put, f2], ?_⟩; simp only [putsL]; change qT (pT (pT (pT _ 60 (sv 2)) 59 (sv 1)) 58 (sv 0)); simp only [qT, pT, Act.put, sIA, sCS, sCZ]; simp [go_sem, quietTo, Ext.refl, f2]; all_goals rfl
     refine fq 5 rfl rfl rfl cK rfl rfl ?_; apply Exists.intro; constructor
     ·rintro sv w' hw' ⟨_, _, (f2 : sv 2 = _), (f4 : sv 4 = _), -⟩; (try dsimp only at f2 f4)
      refine ⟨by simp [Region.wanted, yielded, putsL, Act.put, f2, f4], ?_⟩; simp only [putsL]; change qT (pT (pT (pT (pT _ 62 (sv 4)) 60 (sv 2)) 59 (sv 1)) 58 (sv 0)); simp only [qT, pT, Act.put, sIA, sCS, sCZ]; simp [go_sem, quietTo, Ext.refl, ↓IntWalk.iteOmega, f2, f4, hwj]; (all_goals try simp (disch := omega) only [IntWalk.i64_in]); all_goals rfl
     refine fq 6 rfl rfl rfl cK rfl rfl ?_; apply Exists.intro; constructor
     ·rintro sv w' hw' ⟨_, _, (f2 : sv 2 = _), (f3 : sv 3 = _), _, (f5 : sv 5 = _), -⟩; (try dsimp only at f2 f3 f5)
      refine ⟨by simp [Region.wanted, yielded, putsL, Act.put, f2, f3, f5], ?_⟩; simp only [putsL]; change qT (pT (pT (pT (pT (pT (pT _ 63 (sv 5)) 62 (sv 4)) 61 (sv 3)) 60 (sv 2)) 59 (sv 1)) 58 (sv 0)); simp only [qT, pT, Act.put, sIA, sCS, sCZ]; simp [go_sem, quietTo, Ext.refl, ↓IntWalk.iteOmega, f2, f3, f5, hjl]; (all_goals try simp (disch := omega) only [IntWalk.i64_in]); all_goals rfl
     refine fq 7 rfl rfl rfl cK rfl rfl ?_; apply Exists.intro; constructor
     ·rintro sv w' hw' ⟨_, _, (f2 : sv 2 = _), _, _, _, (f6 : sv 6 = _), -⟩; (try dsimp only at f2 f6)
      obtain ⟨hc, hf, hz9⟩ := (hEw.drew.trans hw').walk; have y0 := (hc _ (off + j * 7) hb).trans d0; have y1 := (hc _ (off + j * 7 + 1) hb).trans d1; have y2 := (hc _ (off + j * 7 + 2) hb).trans d2; have y3 := (hc _ (off + j * 7 + 3) hb).trans d3; have y4 := (hc _ (off + j * 7 + 4) hb).trans d4; have y5 := (hc _ (off + j * 7 + 5) hb).trans d5; have y6 := (hc _ (off + j * 7 + 6) hb).trans d6
      refine ⟨by simp [Region.wanted, yielded, putsL, Act.put, f2, f6], ?_⟩; simp only [putsL]; change qT (pT (pT (pT (pT (pT (pT (pT _ 64 (sv 6)) 63 (sv 5)) 62 (sv 4)) 61 (sv 3)) 60 (sv 2)) 59 (sv 1)) 58 (sv 0)); simp only [qT, pT, Act.put, sIA, sCS, sCZ]; simp [go_sem, quietTo, Ext.refl, ↓IntWalk.iteOmega, f2, f6, y0, y1, y2, y3, y4, y5, y6]; (all_goals try simp (disch := omega) only [IntWalk.i64_in]); all_goals rfl
     refine fq 8 rfl rfl rfl cK rfl rfl ?_; apply Exists.intro; constructor
     ·rintro sv w' hw' ⟨_, _, (f2 : sv 2 = _), -⟩; (try dsimp only at f2)
      obtain ⟨hc2, hf2, hz8⟩ := ((Ext.refl _).drew.trans hw').walk; have x0 := (hc2 _ 0 hX.out.lt).trans (hX.out.cell 0); have x1 := (hc2 _ 1 hX.out.lt).trans (hX.out.cell 1); have x2 := (hc2 _ 2 hX.out.lt).trans (hX.out.cell 2); have x3 := (hc2 _ 3 hX.out.lt).trans (hX.out.cell 3); have x4 := (hc2 _ 4 hX.out.lt).trans (hX.out.cell 4); have x5 := (hc2 _ 5 hX.out.lt).trans (hX.out.cell 5); have x6 := (hc2 _ 6 hX.out.lt).trans (hX.out.cell 6)
      refine ⟨by simp [Region.wanted, yielded, putsL, Act.put, f2], ?_⟩; simp only [putsL]; change qT (pT (pT (pT _ 60 (sv 2)) 59 (sv 1)) 58 (sv 0)); simp only [qT, pT, Act.put, sIA, sCS, sCZ]; simp [go_sem, quietTo, Ext.refl, ↓IntWalk.iteOmega, f2, x0, x1, x2, x3, x4, x5, x6]; (all_goals try simp (disch := omega) only [IntWalk.i64_in]); all_goals rfl
     refine fq 9 rfl rfl rfl cK rfl rfl ?_; apply Exists.intro; constructor
     ·rintro sv w' hw' ⟨(f0 : sv 0 = _), (f1 : sv 1 = _), (f2 : sv 2 = _), (f3 : sv 3 = _), (f4 : sv 4 = _), (f5 : sv 5 = _), (f6 : sv 6 = _), (f7 : sv 7 = _), (f8 : sv 8 = _), -⟩; (try dsimp only at f0 f1 f2 f3 f4 f5 f6 f7 f8)
      refine ⟨by simp [Region.wanted, yielded, putsL, Act.put, f2, f7, f8], ?_⟩; simp only [putsL]; change qT (pT (pT (pT (pT (pT (pT (pT (pT (pT _ 66 (sv 8)) 65 (sv 7)) 64 (sv 6)) 63 (sv 5)) 62 (sv 4)) 61 (sv 3)) 60 (sv 2)) 59 (sv 1)) 58 (sv 0)); simp only [qT, pT, Act.put, sIA, sCS, sCZ]; simp [go_sem, quietTo, Ext.refl, ↓IntWalk.iteOmega, f2, f7, f8]; (all_goals try simp (disch := omega) only [IntWalk.i64_in]); all_goals first | rfl | (exact sliOwn_any y x _)
     refine fq 10 rfl rfl rfl cK rfl rfl ?_; apply Exists.intro; constructor
     ·rintro sv w' hw' ⟨_, _, (f2 : sv 2 = _), _, _, _, _, _, _, (f9 : sv 9 = _), -⟩; (try dsimp only at f2 f9)
      refine ⟨by simp [Region.wanted, yielded, putsL, Act.put, f2, f9], ?_⟩; simp only [putsL]; change qT (pT (pT (pT (pT (pT (pT (pT (pT (pT (pT _ 67 (sv 9)) 66 (sv 8)) 65 (sv 7)) 64 (sv 6)) 63 (sv 5)) 62 (sv 4)) 61 (sv 3)) 60 (sv 2)) 59 (sv 1)) 58 (sv 0)); simp only [qT, pT, Act.put, sIA, sCS, sCZ]; simp [go_sem, quietTo, Ext.refl, ↓IntWalk.iteOmega, f2, f9, hlc]; (all_goals try simp (disch := omega) only [IntWalk.i64_in]); all_goals rfl
     refine fq 11 rfl rfl rfl cK rfl rfl ?_; apply Exists.intro; constructor
     ·rintro sv w' hw' ⟨_, _, (f2 : sv 2 = _), _, _, _, _, _, _, _, (f10 : sv 10 = _), -⟩; (try dsimp only at f2 f10)
      refine ⟨rfl, ?_⟩; simp only [putsL]; change qT (pT (pT (pT (pT (pT (pT (pT (pT (pT (pT (pT _ 68 (sv 10)) 67 (sv 9)) 66 (sv 8)) 65 (sv 7)) 64 (sv 6)) 63 (sv 5)) 62 (sv 4)) 61 (sv 3)) 60 (sv 2)) 59 (sv 1)) 58 (sv 0)); simp only [qT, pT, Act.put, sIA, sCS, sCZ]; simp [go_sem, quietTo, Ext.refl, ↓IntWalk.iteOmega, f2, f10]; (all_goals try simp (disch := omega) only [IntWalk.i64_in]); all_goals rfl
     refine fq 12 rfl rfl rfl cK rfl rfl ?_; apply Exists.intro; constructor
     ·rintro sv w' hw' ⟨_, _, _, _, _, _, _, _, _, _, _, (f11 : sv 11 = _), -⟩; (try dsimp only at f11)
      refine ⟨rfl, ?_⟩; simp only [putsL]; change qT (pT (pT (pT (pT (pT (pT (pT (pT (pT (pT (pT (pT _ 69 (sv 11)) 68 (sv 10)) 67 (sv 9)) 66 (sv 8)) 65 (sv 7)) 64 (sv 6)) 63 (sv 5)) 62 (sv 4)) 61 (sv 3)) 60 (sv 2)) 59 (sv 1)) 58 (sv 0)); simp only [qT, pT, Act.put, sIA, sCS, sCZ]; simp [go_sem, quietTo, Ext.refl, f11]; all_goals rfl
     refine fac_nil fun xb wrb herb hfrb hcrb holdb hapb => ?_
     obtain ⟨(f0 : xb 0 = _), (f1 : xb 1 = _), (f2 : xb 2 = _), (f3 : xb 3 = _), (f4 : xb 4 = _), (f5 : xb 5 = _), (f6 : xb 6 = _), (f7 : xb 7 = _), (f8 : xb 8 = _), (f9 : xb 9 = _), (f10 : xb 10 = _), (f11 : xb 11 = _), (f12 : xb 12 = _), -⟩ := hfrb; (try dsimp only at f0 f1 f2 f3 f4 f5 f6 f7 f8 f9 f10 f11 f12)
     change wpList _ _ _ _ (pT (pT (pT (pT (pT (pT (pT (pT (pT (pT (pT (pT (pT _ 58 (xb 0)) 59 (xb 1)) 60 (xb 2)) 61 (xb 3)) 62 (xb 4)) 63 (xb 5)) 64 (xb 6)) 65 (xb 7)) 66 (xb 8)) 67 (xb 9)) 68 (xb 10)) 69 (xb 11)) 57 (xb 12)) _
     simp only [putsL, Nat.reduceAdd, List.drop_succ_cons, List.drop_zero, List.drop_nil, pT, Act.put, sIA, sCS, sCZ]
     try simp only [f0, f1, f2, f3, f4, f5, f6, f7, f8, f9, f10, f11, f12]
     clear f0 f1 f2 f3 f4 f5 f6 f7 f8 f9 f10 f11 f12; clear holdb hapb; clear hX d0 d1 d2 d3 d4 d5 d6 hEw
     go_wp2
     go_ret
     exact ⟨ret_int (by rw [hv.out, hq, hlc]; simp), he.out.trans ((Ext.refl _).drew.trans herb)⟩
set_option maxRecDepth 100000 in
set_option maxHeartbeats 3200000 in
theorem slipFaultR_any (x : SlipV) (w : World) (hs : x.Small) :
 Calls Tryz.prog 114 #[.agg #[.string x.by_, .int .i64 x.no, .int .i64 x.at_, .int .i64 x.kind, .string x.piece, .int .i64 x.copy, .string x.singer]] w fun e w' => e = .returned (.int .i64 (slipE x)) ∧ Ext w w' := by
 obtain ⟨s1, s2, s3⟩ := hs
 have hX := Lib.hid (Blk.new' (w := w) (t := 101) (cs := #[.string x.by_, .int .i64 x.no, .int .i64 x.at_, .int .i64 x.kind, .string x.piece, .int .i64 x.copy, .string x.singer]) rfl)
 have he : Ext w (w.alloc (.cells #[.string x.by_, .int .i64 x.no, .int .i64 x.at_, .int .i64 x.kind, .string x.piece, .int .i64 x.copy, .string x.singer] 101)) := (Ext.refl _).alloc _
 cases hk1 : keyB x.by_
 case false =>
  have hq : slipE x = 5 := by unfold slipE; simp [hk1]
  go_enter Tryz.func114, Tryz.ntmps114
  go_wp2_with (first
   | (go_at_call 76; (with_reducible refine Calls.mono (key_is hk1 (by omega) _) ?_); rintro e w1 ⟨rfl, hb1⟩; replace he := he.trans hb1; replace hX := Lib.hid (hX.out.ext hb1); clear hb1; (try clear p q lt); obtain ⟨p, q⟩ := hX.out.walk; have lt := hX.out.lt))
  go_ret
  exact ⟨ret_int (by rw [hq]), he⟩
 cases hk2 : outB x.no 1 3000
 case true =>
  have hq : slipE x = 1 := by unfold slipE; simp [hk1, hk2]
  go_enter Tryz.func114, Tryz.ntmps114
  go_wp2_with (first
   | (go_at_call 76; (with_reducible refine Calls.mono (key_is hk1 (by omega) _) ?_); rintro e w1 ⟨rfl, hb1⟩; replace he := he.trans hb1; replace hX := Lib.hid (hX.out.ext hb1); clear hb1; (try clear p q lt); obtain ⟨p, q⟩ := hX.out.walk; have lt := hX.out.lt)
   | (go_at_call 74; (with_reducible refine Calls.mono (sIn_is hk2 _) ?_); rintro e w2 ⟨rfl, rfl⟩; (try simp only [Bool.not_true, Bool.not_false])))
  go_ret
  exact ⟨ret_int (by rw [hq]), he⟩
 cases hk3 : outB x.at_ 0 345686399999
 case true =>
  have hq : slipE x = 1 := by unfold slipE; simp [hk1, hk2, hk3]
  go_enter Tryz.func114, Tryz.ntmps114
  go_wp2_with (first
   | (go_at_call 76; (with_reducible refine Calls.mono (key_is hk1 (by omega) _) ?_); rintro e w1 ⟨rfl, hb1⟩; replace he := he.trans hb1; replace hX := Lib.hid (hX.out.ext hb1); clear hb1; (try clear p q lt); obtain ⟨p, q⟩ := hX.out.walk; have lt := hX.out.lt)
   | (go_at_call 74; (with_reducible refine Calls.mono (sIn_is hk2 _) ?_); rintro e w2 ⟨rfl, rfl⟩; (try simp only [Bool.not_true, Bool.not_false]))
   | (go_at_call 19; (with_reducible refine Calls.mono (sMomF_is hk3 _) ?_); rintro e w3 ⟨rfl, hb1⟩; replace he := he.trans hb1; replace hX := Lib.hid (hX.out.ext hb1); clear hb1; (try clear p q lt); obtain ⟨p, q⟩ := hX.out.walk; have lt := hX.out.lt; (try simp only [Bool.not_true, Bool.not_false, if_true, if_false, Bool.false_eq_true])))
  go_ret
  exact ⟨ret_int (by rw [hq]), he⟩
 cases hk4 : outB x.kind 1 5
 case true =>
  have hq : slipE x = 4 := by unfold slipE; simp [hk1, hk2, hk3, hk4]
  go_enter Tryz.func114, Tryz.ntmps114
  go_wp2_with (first
   | (go_at_call 76; (with_reducible refine Calls.mono (key_is hk1 (by omega) _) ?_); rintro e w1 ⟨rfl, hb1⟩; replace he := he.trans hb1; replace hX := Lib.hid (hX.out.ext hb1); clear hb1; (try clear p q lt); obtain ⟨p, q⟩ := hX.out.walk; have lt := hX.out.lt)
   | (go_at_call 74; (with_reducible refine Calls.mono (sIn_is hk2 _) ?_); rintro e w2 ⟨rfl, rfl⟩; (try simp only [Bool.not_true, Bool.not_false]))
   | (go_at_call 19; (with_reducible refine Calls.mono (sMomF_is hk3 _) ?_); rintro e w3 ⟨rfl, hb1⟩; replace he := he.trans hb1; replace hX := Lib.hid (hX.out.ext hb1); clear hb1; (try clear p q lt); obtain ⟨p, q⟩ := hX.out.walk; have lt := hX.out.lt; (try simp only [Bool.not_true, Bool.not_false, if_true, if_false, Bool.false_eq_true]))
   | (go_at_call 74; (with_reducible refine Calls.mono (sIn_is hk4 _) ?_); rintro e w4 ⟨rfl, rfl⟩; (try simp only [Bool.not_true, Bool.not_false])))
  go_ret
  exact ⟨ret_int (by rw [hq]), he⟩
 cases hk5 : keyB x.piece
 case false =>
  have hq : slipE x = 5 := by unfold slipE; simp [hk1, hk2, hk3, hk4, hk5]
  go_enter Tryz.func114, Tryz.ntmps114
  go_wp2_with (first
   | (go_at_call 76; (with_reducible refine Calls.mono (key_is hk1 (by omega) _) ?_); rintro e w1 ⟨rfl, hb1⟩; replace he := he.trans hb1; replace hX := Lib.hid (hX.out.ext hb1); clear hb1; (try clear p q lt); obtain ⟨p, q⟩ := hX.out.walk; have lt := hX.out.lt)
   | (go_at_call 74; (with_reducible refine Calls.mono (sIn_is hk2 _) ?_); rintro e w2 ⟨rfl, rfl⟩; (try simp only [Bool.not_true, Bool.not_false]))
   | (go_at_call 19; (with_reducible refine Calls.mono (sMomF_is hk3 _) ?_); rintro e w3 ⟨rfl, hb1⟩; replace he := he.trans hb1; replace hX := Lib.hid (hX.out.ext hb1); clear hb1; (try clear p q lt); obtain ⟨p, q⟩ := hX.out.walk; have lt := hX.out.lt; (try simp only [Bool.not_true, Bool.not_false, if_true, if_false, Bool.false_eq_true]))
   | (go_at_call 74; (with_reducible refine Calls.mono (sIn_is hk4 _) ?_); rintro e w4 ⟨rfl, rfl⟩; (try simp only [Bool.not_true, Bool.not_false]))
   | (go_at_call 76; (with_reducible refine Calls.mono (key_is hk5 (by omega) _) ?_); rintro e w5 ⟨rfl, hb1⟩; replace he := he.trans hb1; replace hX := Lib.hid (hX.out.ext hb1); clear hb1; (try clear p q lt); obtain ⟨p, q⟩ := hX.out.walk; have lt := hX.out.lt))
  go_ret
  exact ⟨ret_int (by rw [hq]), he⟩
 cases hk6 : outB x.copy 1 500
 case true =>
  have hq : slipE x = 1 := by unfold slipE; simp [hk1, hk2, hk3, hk4, hk5, hk6]
  go_enter Tryz.func114, Tryz.ntmps114
  go_wp2_with (first
   | (go_at_call 76; (with_reducible refine Calls.mono (key_is hk1 (by omega) _) ?_); rintro e w1 ⟨rfl, hb1⟩; replace he := he.trans hb1; replace hX := Lib.hid (hX.out.ext hb1); clear hb1; (try clear p q lt); obtain ⟨p, q⟩ := hX.out.walk; have lt := hX.out.lt)
   | (go_at_call 74; (with_reducible refine Calls.mono (sIn_is hk2 _) ?_); rintro e w2 ⟨rfl, rfl⟩; (try simp only [Bool.not_true, Bool.not_false]))
   | (go_at_call 19; (with_reducible refine Calls.mono (sMomF_is hk3 _) ?_); rintro e w3 ⟨rfl, hb1⟩; replace he := he.trans hb1; replace hX := Lib.hid (hX.out.ext hb1); clear hb1; (try clear p q lt); obtain ⟨p, q⟩ := hX.out.walk; have lt := hX.out.lt; (try simp only [Bool.not_true, Bool.not_false, if_true, if_false, Bool.false_eq_true]))
   | (go_at_call 74; (with_reducible refine Calls.mono (sIn_is hk4 _) ?_); rintro e w4 ⟨rfl, rfl⟩; (try simp only [Bool.not_true, Bool.not_false]))
   | (go_at_call 76; (with_reducible refine Calls.mono (key_is hk5 (by omega) _) ?_); rintro e w5 ⟨rfl, hb1⟩; replace he := he.trans hb1; replace hX := Lib.hid (hX.out.ext hb1); clear hb1; (try clear p q lt); obtain ⟨p, q⟩ := hX.out.walk; have lt := hX.out.lt)
   | (go_at_call 74; (with_reducible refine Calls.mono (sIn_is hk6 _) ?_); rintro e w6 ⟨rfl, rfl⟩; (try simp only [Bool.not_true, Bool.not_false])))
  go_ret
  exact ⟨ret_int (by rw [hq]), he⟩
 by_cases hk7 : x.kind = 1
 ·have hk7b : decide (x.kind = 1) = true := by simp [hk7]
  have hk4b : outB 1 1 5 = false := by decide
  replace hk7 := Lib.hid hk7
  cases hk8 : keyB x.singer
  ·have hq : slipE x = 5 := by unfold slipE; simp [hk1, hk2, hk3, hk4, hk5, hk6, hk7.out, hk8, hk4b]
   go_enter Tryz.func114, Tryz.ntmps114
   go_wp2_with (first
   | (go_at_call 76; (with_reducible refine Calls.mono (key_is hk1 (by omega) _) ?_); rintro e w1 ⟨rfl, hb1⟩; replace he := he.trans hb1; replace hX := Lib.hid (hX.out.ext hb1); clear hb1; (try clear p q lt); obtain ⟨p, q⟩ := hX.out.walk; have lt := hX.out.lt)
   | (go_at_call 74; (with_reducible refine Calls.mono (sIn_is hk2 _) ?_); rintro e w2 ⟨rfl, rfl⟩; (try simp only [Bool.not_true, Bool.not_false]))
   | (go_at_call 19; (with_reducible refine Calls.mono (sMomF_is hk3 _) ?_); rintro e w3 ⟨rfl, hb1⟩; replace he := he.trans hb1; replace hX := Lib.hid (hX.out.ext hb1); clear hb1; (try clear p q lt); obtain ⟨p, q⟩ := hX.out.walk; have lt := hX.out.lt; (try simp only [Bool.not_true, Bool.not_false, if_true, if_false, Bool.false_eq_true]))
   | (go_at_call 74; (with_reducible refine Calls.mono (sIn_is hk4 _) ?_); rintro e w4 ⟨rfl, rfl⟩; (try simp only [Bool.not_true, Bool.not_false]))
   | (go_at_call 76; (with_reducible refine Calls.mono (key_is hk5 (by omega) _) ?_); rintro e w5 ⟨rfl, hb1⟩; replace he := he.trans hb1; replace hX := Lib.hid (hX.out.ext hb1); clear hb1; (try clear p q lt); obtain ⟨p, q⟩ := hX.out.walk; have lt := hX.out.lt)
   | (go_at_call 74; (with_reducible refine Calls.mono (sIn_is hk6 _) ?_); rintro e w6 ⟨rfl, rfl⟩; (try simp only [Bool.not_true, Bool.not_false]))
   | (go_at_call 76; (with_reducible refine Calls.mono (key_is hk8 (by omega) _) ?_); rintro e w8 ⟨rfl, hb1⟩; replace he := he.trans hb1; replace hX := Lib.hid (hX.out.ext hb1); clear hb1; (try clear p q lt); obtain ⟨p, q⟩ := hX.out.walk; have lt := hX.out.lt))
   go_ret
   exact ⟨ret_int (by rw [hq]), he⟩
  ·have hq : slipE x = 0 := by unfold slipE; simp [hk1, hk2, hk3, hk4, hk5, hk6, hk7.out, hk8, hk4b]
   go_enter Tryz.func114, Tryz.ntmps114
   go_wp2_with (first
   | (go_at_call 76; (with_reducible refine Calls.mono (key_is hk1 (by omega) _) ?_); rintro e w1 ⟨rfl, hb1⟩; replace he := he.trans hb1; replace hX := Lib.hid (hX.out.ext hb1); clear hb1; (try clear p q lt); obtain ⟨p, q⟩ := hX.out.walk; have lt := hX.out.lt)
   | (go_at_call 74; (with_reducible refine Calls.mono (sIn_is hk2 _) ?_); rintro e w2 ⟨rfl, rfl⟩; (try simp only [Bool.not_true, Bool.not_false]))
   | (go_at_call 19; (with_reducible refine Calls.mono (sMomF_is hk3 _) ?_); rintro e w3 ⟨rfl, hb1⟩; replace he := he.trans hb1; replace hX := Lib.hid (hX.out.ext hb1); clear hb1; (try clear p q lt); obtain ⟨p, q⟩ := hX.out.walk; have lt := hX.out.lt; (try simp only [Bool.not_true, Bool.not_false, if_true, if_false, Bool.false_eq_true]))
   | (go_at_call 74; (with_reducible refine Calls.mono (sIn_is hk4 _) ?_); rintro e w4 ⟨rfl, rfl⟩; (try simp only [Bool.not_true, Bool.not_false]))
   | (go_at_call 76; (with_reducible refine Calls.mono (key_is hk5 (by omega) _) ?_); rintro e w5 ⟨rfl, hb1⟩; replace he := he.trans hb1; replace hX := Lib.hid (hX.out.ext hb1); clear hb1; (try clear p q lt); obtain ⟨p, q⟩ := hX.out.walk; have lt := hX.out.lt)
   | (go_at_call 74; (with_reducible refine Calls.mono (sIn_is hk6 _) ?_); rintro e w6 ⟨rfl, rfl⟩; (try simp only [Bool.not_true, Bool.not_false]))
   | (go_at_call 76; (with_reducible refine Calls.mono (key_is hk8 (by omega) _) ?_); rintro e w8 ⟨rfl, hb1⟩; replace he := he.trans hb1; replace hX := Lib.hid (hX.out.ext hb1); clear hb1; (try clear p q lt); obtain ⟨p, q⟩ := hX.out.walk; have lt := hX.out.lt))
   go_ret
   exact ⟨ret_int (by rw [hq]), he⟩
 ·have hk7b : decide (x.kind = 1) = false := by simp [hk7]
  replace hk7 := Lib.hid hk7
  by_cases hk9 : x.singer = ⟨#[]⟩
  rotate_left
  ·have hq : slipE x = 3 := by unfold slipE; simp [hk1, hk2, hk3, hk4, hk5, hk6, hk7.out, hk9]
   have g1 : x.singer.toList.isEmpty = false := by
    cases hh : x.singer.toList.isEmpty with
    | false => rfl
    | true => exact absurd (empty_ba hh) hk9
   have g2 : ¬ x.singer.toList = [] := fun e => by rw [e] at g1; cases g1
   go_enter Tryz.func114, Tryz.ntmps114
   go_wp2_with (first
   | (go_at_call 76; (with_reducible refine Calls.mono (key_is hk1 (by omega) _) ?_); rintro e w1 ⟨rfl, hb1⟩; replace he := he.trans hb1; replace hX := Lib.hid (hX.out.ext hb1); clear hb1; (try clear p q lt); obtain ⟨p, q⟩ := hX.out.walk; have lt := hX.out.lt)
   | (go_at_call 74; (with_reducible refine Calls.mono (sIn_is hk2 _) ?_); rintro e w2 ⟨rfl, rfl⟩; (try simp only [Bool.not_true, Bool.not_false]))
   | (go_at_call 19; (with_reducible refine Calls.mono (sMomF_is hk3 _) ?_); rintro e w3 ⟨rfl, hb1⟩; replace he := he.trans hb1; replace hX := Lib.hid (hX.out.ext hb1); clear hb1; (try clear p q lt); obtain ⟨p, q⟩ := hX.out.walk; have lt := hX.out.lt; (try simp only [Bool.not_true, Bool.not_false, if_true, if_false, Bool.false_eq_true]))
   | (go_at_call 74; (with_reducible refine Calls.mono (sIn_is hk4 _) ?_); rintro e w4 ⟨rfl, rfl⟩; (try simp only [Bool.not_true, Bool.not_false]))
   | (go_at_call 76; (with_reducible refine Calls.mono (key_is hk5 (by omega) _) ?_); rintro e w5 ⟨rfl, hb1⟩; replace he := he.trans hb1; replace hX := Lib.hid (hX.out.ext hb1); clear hb1; (try clear p q lt); obtain ⟨p, q⟩ := hX.out.walk; have lt := hX.out.lt)
   | (go_at_call 74; (with_reducible refine Calls.mono (sIn_is hk6 _) ?_); rintro e w6 ⟨rfl, rfl⟩; (try simp only [Bool.not_true, Bool.not_false])))
   go_ret
   exact ⟨ret_int (by rw [hq]), he⟩
  ·have g1 : x.singer.toList.isEmpty = true := by rw [hk9, Lib.toList_data]; rfl
   have g2 : x.singer.toList = [] := by rw [hk9, Lib.toList_data]
   replace hk9 := Lib.hid hk9
   have hq : slipE x = 0 := by unfold slipE; simp [hk1, hk2, hk3, hk4, hk5, hk6, hk7.out, hk9.out]
   go_enter Tryz.func114, Tryz.ntmps114
   go_wp2_with (first
   | (go_at_call 76; (with_reducible refine Calls.mono (key_is hk1 (by omega) _) ?_); rintro e w1 ⟨rfl, hb1⟩; replace he := he.trans hb1; replace hX := Lib.hid (hX.out.ext hb1); clear hb1; (try clear p q lt); obtain ⟨p, q⟩ := hX.out.walk; have lt := hX.out.lt)
   | (go_at_call 74; (with_reducible refine Calls.mono (sIn_is hk2 _) ?_); rintro e w2 ⟨rfl, rfl⟩; (try simp only [Bool.not_true, Bool.not_false]))
   | (go_at_call 19; (with_reducible refine Calls.mono (sMomF_is hk3 _) ?_); rintro e w3 ⟨rfl, hb1⟩; replace he := he.trans hb1; replace hX := Lib.hid (hX.out.ext hb1); clear hb1; (try clear p q lt); obtain ⟨p, q⟩ := hX.out.walk; have lt := hX.out.lt; (try simp only [Bool.not_true, Bool.not_false, if_true, if_false, Bool.false_eq_true]))
   | (go_at_call 74; (with_reducible refine Calls.mono (sIn_is hk4 _) ?_); rintro e w4 ⟨rfl, rfl⟩; (try simp only [Bool.not_true, Bool.not_false]))
   | (go_at_call 76; (with_reducible refine Calls.mono (key_is hk5 (by omega) _) ?_); rintro e w5 ⟨rfl, hb1⟩; replace he := he.trans hb1; replace hX := Lib.hid (hX.out.ext hb1); clear hb1; (try clear p q lt); obtain ⟨p, q⟩ := hX.out.walk; have lt := hX.out.lt)
   | (go_at_call 74; (with_reducible refine Calls.mono (sIn_is hk6 _) ?_); rintro e w6 ⟨rfl, rfl⟩; (try simp only [Bool.not_true, Bool.not_false])))
   go_ret
   exact ⟨ret_int (by rw [hq]), he⟩
end Go.Proofs.YtkjhbofbcmelgaaGreatDoor
