/- Intervals, quotients and names come back: the property answers true. Conditions: the argument is a list of ints that lies in memory; the table of the powers of ten stands. -/
import Derived.Test.YtebhjmknlhmmdaaGreatDoorTuneI
import Derived.Test.YtebhjmknlhmmdaaGreatDoorTuneM
import Derived.Test.YtebhjmknlhmmdaaGreatDoorTuneO
import Derived.Test.YtebhjmknlhmmdaaGreatDoorMathD
import Derived.Test.YtebhjmknlhmmdaaGreatDoorMathN
import Derived.Test.YtebhjmknlhmmdaaGreatDoorReadyK
import Derived.Outline
namespace Go.Proofs.YtebhjmknlhmmdaaGreatDoor
open Go Go.RowKit

theorem neg_plain {x : I4} (h : rightB x = true) : negI x = ⟨-x.a, -x.b, -x.c, -x.d⟩ := by
  have := right_bounds h
  unfold negI
  refine I4.eq ?_ ?_ ?_ ?_ <;> (simp only; rw [IntWalk.wrap64_in _ (by omega)])
theorem add_plain {x y : I4} (h : rightB x = true) (k : rightB y = true) : addI x y = ⟨x.a + y.a, x.b + y.b, x.c + y.c, x.d + y.d⟩ := by
  have := right_bounds h
  have := right_bounds k
  unfold addI
  refine I4.eq ?_ ?_ ?_ ?_ <;> (simp only; rw [IntWalk.wrap64_in _ (by omega)])
theorem sub_plain {x y : I4} (h : rightB x = true) (k : rightB y = true) : addI x (negI y) = ⟨x.a - y.a, x.b - y.b, x.c - y.c, x.d - y.d⟩ := by
  have e : negI y = y.neg_ := neg_plain k
  rw [e, add_plain h (right_neg k)]
  refine I4.eq ?_ ?_ ?_ ?_ <;> (simp only [I4.neg_]; omega)
theorem add_neg_self {x : I4} (h : rightB x = true) : addI x (negI x) = ⟨0, 0, 0, 0⟩ := by
  rw [sub_plain h h]
  refine I4.eq ?_ ?_ ?_ ?_ <;> (simp only; omega)
theorem add_back {x y : I4} (h : rightB x = true) (k : rightB y = true) (l : rightB (addI x y) = true) : addI (addI x y) (negI y) = x := by
  rw [sub_plain l k, add_plain h k]
  refine I4.eq ?_ ?_ ?_ ?_ <;> (simp only; omega)
theorem okI_right {x : I4} (h : rightB x = true) : okI x = x := by unfold okI; rw [h]; rfl
theorem fault_right {x : I4} (h : rightB x = true) : faultI x = 0 := by unfold faultI; rw [h]; rfl
theorem fault_wrong {x : I4} (h : rightB x = false) : faultI x = 1 := by unfold faultI; rw [h]; rfl
theorem okI_wrong {x : I4} (h : rightB x = false) : okI x = ⟨0, 0, 0, 0⟩ := by unfold okI; rw [h]; rfl
theorem both_of {x y : I4} (h : rightB x = true) (k : rightB y = true) : bothB x y = true := by unfold bothB; rw [h, k]; rfl

set_option maxRecDepth 100000 in
set_option maxHeartbeats 6400000 in
theorem law_any (B : Nat) (w : World) (p : Option Addr) (n c : Nat) (h : Lst w w.heap.size p n) (ht : Tab B w) :
    Calls Tryz.prog 3 #[.slice p n c] w fun e w' => e = .returned (.bool true) ∧ Ext w w' := by
  have hS0 : Str (w.alloc (.cells #[.slice p n c, .int .i64 0] 25)) w.heap.size 0 := ⟨p, n, c, 0, Nat.le_refl _, Blk.new' rfl, h.low fun j hj => Below.heap_alloc w _ j hj⟩
  have hB := ht.1
  clear h
  go_enter Tryz.func3, Tryz.ntmps3
  go_upto_region 3 with (first
    | (go_at_call 4; with_reducible refine Calls.mono (interval_any w.heap.size 0 _ (by omega) hS0) ?_; rintro e w1 ⟨x, rfl, hS1, hE1⟩)
    | (go_at_call 4; with_reducible refine Calls.mono (interval_any w.heap.size (0 + 20) _ (by omega) hS1) ?_; rintro e w2 ⟨y, rfl, hS2, hE2⟩)
    | (go_at_call 5; with_reducible refine Calls.mono (range_any w.heap.size (0 + 20 + 20) 0 127 _ (by omega) (by omega) (by omega) (by omega) (by omega) hS2) ?_; rintro e w3 ⟨v, rfl, hv0, hv1, hS3, hE3⟩))
  obtain ⟨m, rfl⟩ : ∃ m : Nat, v = m := ⟨v.toNat, by omega⟩
  have hm : m ≤ 127 := by omega
  clear hv0 hv1
  have hI := Blk.alloc (Blk.new' (w := w3) (t := 27) (cs := #[.int .i64 x.a, .int .i64 x.b, .int .i64 x.c, .int .i64 x.d]) rfl) (.cells #[.int .i64 y.a, .int .i64 y.b, .int .i64 y.c, .int .i64 y.d] 27)
  have hJ := Blk.new' (w := w3.alloc (.cells #[.int .i64 x.a, .int .i64 x.b, .int .i64 x.c, .int .i64 x.d] 27)) (t := 27) (cs := #[.int .i64 y.a, .int .i64 y.b, .int .i64 y.c, .int .i64 y.d]) rfl
  have hE : Ext w ((w3.alloc (.cells #[.int .i64 x.a, .int .i64 x.b, .int .i64 x.c, .int .i64 x.d] 27)).alloc (.cells #[.int .i64 y.a, .int .i64 y.b, .int .i64 y.c, .int .i64 y.d] 27)) := ExtS.back (Ext.refl w) (Nat.le_refl _) (((((ExtS.refl _ w).alloc _).trans hE1).trans hE2).trans hE3 |>.alloc _ |>.alloc _)
  clear hS0 hS1 hS2 hS3 hE1 hE2 hE3
  simp only [World.size_alloc] at hJ
  have hf1 := fun W => intervalFault_any x W
  have hf2 := fun W => intervalFault_any y W
  cases ha : rightB x
  · rw [fault_wrong ha] at hf1
    go_wp2_with (first
      | (go_at_call 6; with_reducible refine Calls.mono (hf1 _) ?_; rintro e wc1 ⟨rfl, hbc1⟩; have bc1_0 := Blk.ext hI hbc1; have bc1_1 := Blk.ext hJ hbc1; have ec1 := Ext.trans hE hbc1; clear hbc1; have lc1_0 := bc1_0.lt; obtain ⟨sc1_0, -⟩ := bc1_0.walk; have lc1_1 := bc1_1.lt; obtain ⟨sc1_1, -⟩ := bc1_1.walk)
      | (go_at_call 7; with_reducible refine Calls.mono (ready_any B _ (by exact ht.ext ec1)) ?_; rintro e wc2 ⟨rfl, hbc2⟩; have bc2_0 := Blk.ext bc1_0 hbc2; have bc2_1 := Blk.ext bc1_1 hbc2; have ec2 := Ext.trans ec1 hbc2; clear hbc2; have lc2_0 := bc2_0.lt; obtain ⟨sc2_0, -⟩ := bc2_0.walk; have lc2_1 := bc2_1.lt; obtain ⟨sc2_1, -⟩ := bc2_1.walk))
    go_ret
    exact ⟨rfl, ec2⟩
  · rw [fault_right ha] at hf1
    cases hb : rightB y
    · rw [fault_wrong hb] at hf2
      go_wp2_with (first
        | (go_at_call 6; with_reducible refine Calls.mono (hf1 _) ?_; rintro e wc1 ⟨rfl, hbc1⟩; have bc1_0 := Blk.ext hI hbc1; have bc1_1 := Blk.ext hJ hbc1; have ec1 := Ext.trans hE hbc1; clear hbc1; have lc1_0 := bc1_0.lt; obtain ⟨sc1_0, -⟩ := bc1_0.walk; have lc1_1 := bc1_1.lt; obtain ⟨sc1_1, -⟩ := bc1_1.walk)
        | (go_at_call 6; with_reducible refine Calls.mono (hf2 _) ?_; rintro e wc2 ⟨rfl, hbc2⟩; have bc2_0 := Blk.ext bc1_0 hbc2; have bc2_1 := Blk.ext bc1_1 hbc2; have ec2 := Ext.trans ec1 hbc2; clear hbc2; have lc2_0 := bc2_0.lt; obtain ⟨sc2_0, -⟩ := bc2_0.walk; have lc2_1 := bc2_1.lt; obtain ⟨sc2_1, -⟩ := bc2_1.walk)
        | (go_at_call 7; with_reducible refine Calls.mono (ready_any B _ (by exact ht.ext ec2)) ?_; rintro e wc3 ⟨rfl, hbc3⟩; have bc3_0 := Blk.ext bc2_0 hbc3; have bc3_1 := Blk.ext bc2_1 hbc3; have ec3 := Ext.trans ec2 hbc3; clear hbc3; have lc3_0 := bc3_0.lt; obtain ⟨sc3_0, -⟩ := bc3_0.walk; have lc3_1 := bc3_1.lt; obtain ⟨sc3_1, -⟩ := bc3_1.walk))
      go_ret
      exact ⟨rfl, ec3⟩
    · rw [fault_right hb] at hf2
      have hz : rightB ⟨0, 0, 0, 0⟩ = true := by decide
      have hd1 := fun W => dif1_any x x W (both_of ha ha)
      rw [add_neg_self ha, okI_right hz, fault_right hz] at hd1
      have hq1 := fun W => quo1_any x W ha
      have qb1 := (qn_le ha).2.2.2
      have qb2 := (qn_le (right_neg ha)).2.2.2
      have ho1 := fun W => of2_any (qn x 4) (qd x 4) W (qn_pos _ _) (by omega) (qn_pos _ _) (by unfold qd; omega) (cop_q x)
      rw [ofR_q ha, ofE_q ha] at ho1
      have hs1 := fun W => sum1_any x y W (both_of ha hb)
      have hc1 := fun W => com1_any x y W (both_of ha hb) ha hb
      have hc2 := fun W => com1_any y x W (both_of hb ha) hb ha
      rw [cmpI_neg y x] at hc2
      have hcz := cmpI_zero x y
      have hn1 := fun W (hW : Tab B W) => name_any m B W hm hW
      have hn2 := fun W => note_any (nameB m) W (by have := name_size hm; omega)
      rw [noteR_name hm, noteE_name hm] at hn2
      have e0 : letterB (m % 12) ++ ⟨(Lib.itoa ((m / 12 : Nat) - 1)).toArray⟩ = nameB m := rfl
      simp only [e0] at hn1
      have hc3 : -1 ≤ cmpI x y ∧ cmpI x y ≤ 1 := by unfold cmpI cmpN; split; omega; split <;> omega
      generalize cmpI x y = cv at *
      generalize nameB m = nb at *
      generalize qn x 4 = qa at *
      generalize qd x 4 = qb at *
      clear e0 hz
      replace hf1 := Lib.hid hf1
      replace hf2 := Lib.hid hf2
      replace hd1 := Lib.hid hd1
      replace hq1 := Lib.hid hq1
      replace ho1 := Lib.hid ho1
      replace hc1 := Lib.hid hc1
      replace hc2 := Lib.hid hc2
      replace hn1 := Lib.hid hn1
      replace hn2 := Lib.hid hn2
      cases hsr : rightB (addI x y)
      · rw [okI_wrong hsr, fault_wrong hsr] at hs1
        replace hs1 := Lib.hid hs1
        go_upto_region 19 with (first
          | (go_at_call 6; with_reducible refine Calls.mono (hf1.out _) ?_; rintro e wc1 ⟨rfl, hbc1⟩; have bc1_0 := Blk.ext hI hbc1; have bc1_1 := Blk.ext hJ hbc1; have ec1 := Ext.trans hE hbc1; clear hbc1; have lc1_0 := bc1_0.lt; obtain ⟨sc1_0, -⟩ := bc1_0.walk; have lc1_1 := bc1_1.lt; obtain ⟨sc1_1, -⟩ := bc1_1.walk)
          | (go_at_call 6; with_reducible refine Calls.mono (hf2.out _) ?_; rintro e wc2 ⟨rfl, hbc2⟩; have bc2_0 := Blk.ext bc1_0 hbc2; have bc2_1 := Blk.ext bc1_1 hbc2; have ec2 := Ext.trans ec1 hbc2; clear hbc2; have lc2_0 := bc2_0.lt; obtain ⟨sc2_0, -⟩ := bc2_0.walk; have lc2_1 := bc2_1.lt; obtain ⟨sc2_1, -⟩ := bc2_1.walk)
          | (go_at_call 8; with_reducible refine Calls.mono (hd1.out _) ?_; rintro e wc3 ⟨rfl, hbc3⟩; have bc3_0 := Blk.ext bc2_0 hbc3; have bc3_1 := Blk.ext bc2_1 hbc3; have ec3 := Ext.trans ec2 hbc3; clear hbc3; have lc3_0 := bc3_0.lt; obtain ⟨sc3_0, -⟩ := bc3_0.walk; have lc3_1 := bc3_1.lt; obtain ⟨sc3_1, -⟩ := bc3_1.walk)
          | (go_at_call 9; with_reducible refine Calls.mono (hq1.out _) ?_; rintro e wc4 ⟨rfl, hbc4⟩; have bc4_0 := Blk.ext (Blk.alloc bc3_0 _) hbc4; have bc4_1 := Blk.ext (Blk.alloc bc3_1 _) hbc4; have bc4_2 := Blk.ext (Blk.new' (t := 27) (cs := #[.int .i64 0, .int .i64 0, .int .i64 0, .int .i64 0]) rfl) hbc4; have ec4 := Ext.trans (Ext.alloc ec3 _) hbc4; clear hbc4; have lc4_0 := bc4_0.lt; obtain ⟨sc4_0, -⟩ := bc4_0.walk; have lc4_1 := bc4_1.lt; obtain ⟨sc4_1, -⟩ := bc4_1.walk; have lc4_2 := bc4_2.lt; obtain ⟨sc4_2, -⟩ := bc4_2.walk)
          | (go_at_call 10; with_reducible refine Calls.mono (ho1.out _) ?_; rintro e wc5 ⟨rfl, hbc5⟩; have bc5_0 := Blk.ext (Blk.alloc bc4_0 _) hbc5; have bc5_1 := Blk.ext (Blk.alloc bc4_1 _) hbc5; have bc5_2 := Blk.ext (Blk.alloc bc4_2 _) hbc5; have bc5_3 := Blk.ext (Blk.new' (t := 36) (cs := #[.int .i64 qa, .int .i64 qb]) rfl) hbc5; have ec5 := Ext.trans (Ext.alloc ec4 _) hbc5; clear hbc5; have lc5_0 := bc5_0.lt; obtain ⟨sc5_0, -⟩ := bc5_0.walk; have lc5_1 := bc5_1.lt; obtain ⟨sc5_1, -⟩ := bc5_1.walk; have lc5_2 := bc5_2.lt; obtain ⟨sc5_2, -⟩ := bc5_2.walk; have lc5_3 := bc5_3.lt; obtain ⟨sc5_3, -⟩ := bc5_3.walk)
          | (go_at_call 11; with_reducible refine Calls.mono (hs1.out _) ?_; rintro e wc6 ⟨rfl, hbc6⟩; have bc6_0 := Blk.ext (Blk.alloc bc5_0 _) hbc6; have bc6_1 := Blk.ext (Blk.alloc bc5_1 _) hbc6; have bc6_2 := Blk.ext (Blk.alloc bc5_2 _) hbc6; have bc6_3 := Blk.ext (Blk.alloc bc5_3 _) hbc6; have bc6_4 := Blk.ext (Blk.new' (t := 27) (cs := #[.int .i64 x.a, .int .i64 x.b, .int .i64 x.c, .int .i64 x.d]) rfl) hbc6; have ec6 := Ext.trans (Ext.alloc ec5 _) hbc6; clear hbc6; have lc6_0 := bc6_0.lt; obtain ⟨sc6_0, -⟩ := bc6_0.walk; have lc6_1 := bc6_1.lt; obtain ⟨sc6_1, -⟩ := bc6_1.walk; have lc6_2 := bc6_2.lt; obtain ⟨sc6_2, -⟩ := bc6_2.walk; have lc6_3 := bc6_3.lt; obtain ⟨sc6_3, -⟩ := bc6_3.walk; have lc6_4 := bc6_4.lt; obtain ⟨sc6_4, -⟩ := bc6_4.walk)
          | (go_at_call 12; with_reducible refine Calls.mono (hc1.out _) ?_; rintro e wc7 ⟨rfl, hbc7⟩; have bc7_0 := Blk.ext (Blk.alloc bc6_0 _) hbc7; have bc7_1 := Blk.ext (Blk.alloc bc6_1 _) hbc7; have bc7_2 := Blk.ext (Blk.alloc bc6_2 _) hbc7; have bc7_3 := Blk.ext (Blk.alloc bc6_3 _) hbc7; have bc7_4 := Blk.ext (Blk.alloc bc6_4 _) hbc7; have bc7_5 := Blk.ext (Blk.new' (t := 27) (cs := #[.int .i64 0, .int .i64 0, .int .i64 0, .int .i64 0]) rfl) hbc7; have ec7 := Ext.trans (Ext.alloc ec6 _) hbc7; clear hbc7; have lc7_0 := bc7_0.lt; obtain ⟨sc7_0, -⟩ := bc7_0.walk; have lc7_1 := bc7_1.lt; obtain ⟨sc7_1, -⟩ := bc7_1.walk; have lc7_2 := bc7_2.lt; obtain ⟨sc7_2, -⟩ := bc7_2.walk; have lc7_3 := bc7_3.lt; obtain ⟨sc7_3, -⟩ := bc7_3.walk; have lc7_4 := bc7_4.lt; obtain ⟨sc7_4, -⟩ := bc7_4.walk; have lc7_5 := bc7_5.lt; obtain ⟨sc7_5, -⟩ := bc7_5.walk)
          | (go_at_call 12; with_reducible refine Calls.mono (hc2.out _) ?_; rintro e wc8 ⟨rfl, hbc8⟩; have bc8_0 := Blk.ext bc7_0 hbc8; have bc8_1 := Blk.ext bc7_1 hbc8; have bc8_2 := Blk.ext bc7_2 hbc8; have bc8_3 := Blk.ext bc7_3 hbc8; have bc8_4 := Blk.ext bc7_4 hbc8; have bc8_5 := Blk.ext bc7_5 hbc8; have ec8 := Ext.trans ec7 hbc8; clear hbc8; have lc8_0 := bc8_0.lt; obtain ⟨sc8_0, -⟩ := bc8_0.walk; have lc8_1 := bc8_1.lt; obtain ⟨sc8_1, -⟩ := bc8_1.walk; have lc8_2 := bc8_2.lt; obtain ⟨sc8_2, -⟩ := bc8_2.walk; have lc8_3 := bc8_3.lt; obtain ⟨sc8_3, -⟩ := bc8_3.walk; have lc8_4 := bc8_4.lt; obtain ⟨sc8_4, -⟩ := bc8_4.walk; have lc8_5 := bc8_5.lt; obtain ⟨sc8_5, -⟩ := bc8_5.walk)
          | (go_at_call 13; with_reducible refine Calls.mono (hn1.out _ (by exact ht.ext ec8)) ?_; rintro e wc9 ⟨rfl, hbc9⟩; have bc9_0 := Blk.ext bc8_0 hbc9; have bc9_1 := Blk.ext bc8_1 hbc9; have bc9_2 := Blk.ext bc8_2 hbc9; have bc9_3 := Blk.ext bc8_3 hbc9; have bc9_4 := Blk.ext bc8_4 hbc9; have bc9_5 := Blk.ext bc8_5 hbc9; have ec9 := Ext.trans ec8 hbc9; clear hbc9; have lc9_0 := bc9_0.lt; obtain ⟨sc9_0, -⟩ := bc9_0.walk; have lc9_1 := bc9_1.lt; obtain ⟨sc9_1, -⟩ := bc9_1.walk; have lc9_2 := bc9_2.lt; obtain ⟨sc9_2, -⟩ := bc9_2.walk; have lc9_3 := bc9_3.lt; obtain ⟨sc9_3, -⟩ := bc9_3.walk; have lc9_4 := bc9_4.lt; obtain ⟨sc9_4, -⟩ := bc9_4.walk; have lc9_5 := bc9_5.lt; obtain ⟨sc9_5, -⟩ := bc9_5.walk)
          | (go_at_call 14; with_reducible refine Calls.mono (hn2.out _) ?_; rintro e wc10 ⟨rfl, hbc10⟩; have bc10_0 := Blk.ext bc9_0 hbc10; have bc10_1 := Blk.ext bc9_1 hbc10; have bc10_2 := Blk.ext bc9_2 hbc10; have bc10_3 := Blk.ext bc9_3 hbc10; have bc10_4 := Blk.ext bc9_4 hbc10; have bc10_5 := Blk.ext bc9_5 hbc10; have ec10 := Ext.trans ec9 hbc10; clear hbc10; have lc10_0 := bc10_0.lt; obtain ⟨sc10_0, -⟩ := bc10_0.walk; have lc10_1 := bc10_1.lt; obtain ⟨sc10_1, -⟩ := bc10_1.walk; have lc10_2 := bc10_2.lt; obtain ⟨sc10_2, -⟩ := bc10_2.walk; have lc10_3 := bc10_3.lt; obtain ⟨sc10_3, -⟩ := bc10_3.walk; have lc10_4 := bc10_4.lt; obtain ⟨sc10_4, -⟩ := bc10_4.walk; have lc10_5 := bc10_5.lt; obtain ⟨sc10_5, -⟩ := bc10_5.walk))
        have hcv : cv = 0 ∨ cv = -1 ∨ cv = 1 := by omega
        clear hd1 hq1 ho1 hs1 hc1 hc2 hn1 hn2 hf1 hf2
        rcases hcv with rfl | rfl | rfl
        · obtain rfl := hcz.1 rfl
          clear hcz hc3
          go_wp2_with (go_at_call 7; refine (ready_any B _ (by exact ht.ext ec10)).mono ?_; rintro e wz ⟨rfl, hz⟩)
          all_goals
            go_ret
            exact ⟨rfl, ec10.trans hz⟩
        · have hne : ¬ (x.a = y.a ∧ x.b = y.b ∧ x.c = y.c ∧ x.d = y.d) := fun ⟨a1, a2, a3, a4⟩ => absurd (hcz.2 (I4.eq a1 a2 a3 a4)) (by decide)
          clear hcz hc3
          go_wp2_with (go_at_call 7; refine (ready_any B _ (by exact ht.ext ec10)).mono ?_; rintro e wz ⟨rfl, hz⟩)
          all_goals
            go_ret
            exact ⟨rfl, ec10.trans hz⟩
        · have hne : ¬ (x.a = y.a ∧ x.b = y.b ∧ x.c = y.c ∧ x.d = y.d) := fun ⟨a1, a2, a3, a4⟩ => absurd (hcz.2 (I4.eq a1 a2 a3 a4)) (by decide)
          clear hcz hc3
          go_wp2_with (go_at_call 7; refine (ready_any B _ (by exact ht.ext ec10)).mono ?_; rintro e wz ⟨rfl, hz⟩)
          all_goals
            go_ret
            exact ⟨rfl, ec10.trans hz⟩
      · rw [okI_right hsr, fault_right hsr] at hs1
        have hd2 := fun W => dif1_any (addI x y) y W (both_of hsr hb)
        rw [add_back ha hb hsr, okI_right ha, fault_right ha] at hd2
        generalize addI x y = z at *
        replace hs1 := Lib.hid hs1
        replace hd2 := Lib.hid hd2
        go_upto_region 19 with (first
          | (go_at_call 6; with_reducible refine Calls.mono (hf1.out _) ?_; rintro e wc1 ⟨rfl, hbc1⟩; have bc1_0 := Blk.ext hI hbc1; have bc1_1 := Blk.ext hJ hbc1; have ec1 := Ext.trans hE hbc1; clear hbc1; have lc1_0 := bc1_0.lt; obtain ⟨sc1_0, -⟩ := bc1_0.walk; have lc1_1 := bc1_1.lt; obtain ⟨sc1_1, -⟩ := bc1_1.walk)
          | (go_at_call 6; with_reducible refine Calls.mono (hf2.out _) ?_; rintro e wc2 ⟨rfl, hbc2⟩; have bc2_0 := Blk.ext bc1_0 hbc2; have bc2_1 := Blk.ext bc1_1 hbc2; have ec2 := Ext.trans ec1 hbc2; clear hbc2; have lc2_0 := bc2_0.lt; obtain ⟨sc2_0, -⟩ := bc2_0.walk; have lc2_1 := bc2_1.lt; obtain ⟨sc2_1, -⟩ := bc2_1.walk)
          | (go_at_call 8; with_reducible refine Calls.mono (hd1.out _) ?_; rintro e wc3 ⟨rfl, hbc3⟩; have bc3_0 := Blk.ext bc2_0 hbc3; have bc3_1 := Blk.ext bc2_1 hbc3; have ec3 := Ext.trans ec2 hbc3; clear hbc3; have lc3_0 := bc3_0.lt; obtain ⟨sc3_0, -⟩ := bc3_0.walk; have lc3_1 := bc3_1.lt; obtain ⟨sc3_1, -⟩ := bc3_1.walk)
          | (go_at_call 9; with_reducible refine Calls.mono (hq1.out _) ?_; rintro e wc4 ⟨rfl, hbc4⟩; have bc4_0 := Blk.ext (Blk.alloc bc3_0 _) hbc4; have bc4_1 := Blk.ext (Blk.alloc bc3_1 _) hbc4; have bc4_2 := Blk.ext (Blk.new' (t := 27) (cs := #[.int .i64 0, .int .i64 0, .int .i64 0, .int .i64 0]) rfl) hbc4; have ec4 := Ext.trans (Ext.alloc ec3 _) hbc4; clear hbc4; have lc4_0 := bc4_0.lt; obtain ⟨sc4_0, -⟩ := bc4_0.walk; have lc4_1 := bc4_1.lt; obtain ⟨sc4_1, -⟩ := bc4_1.walk; have lc4_2 := bc4_2.lt; obtain ⟨sc4_2, -⟩ := bc4_2.walk)
          | (go_at_call 10; with_reducible refine Calls.mono (ho1.out _) ?_; rintro e wc5 ⟨rfl, hbc5⟩; have bc5_0 := Blk.ext (Blk.alloc bc4_0 _) hbc5; have bc5_1 := Blk.ext (Blk.alloc bc4_1 _) hbc5; have bc5_2 := Blk.ext (Blk.alloc bc4_2 _) hbc5; have bc5_3 := Blk.ext (Blk.new' (t := 36) (cs := #[.int .i64 qa, .int .i64 qb]) rfl) hbc5; have ec5 := Ext.trans (Ext.alloc ec4 _) hbc5; clear hbc5; have lc5_0 := bc5_0.lt; obtain ⟨sc5_0, -⟩ := bc5_0.walk; have lc5_1 := bc5_1.lt; obtain ⟨sc5_1, -⟩ := bc5_1.walk; have lc5_2 := bc5_2.lt; obtain ⟨sc5_2, -⟩ := bc5_2.walk; have lc5_3 := bc5_3.lt; obtain ⟨sc5_3, -⟩ := bc5_3.walk)
          | (go_at_call 11; with_reducible refine Calls.mono (hs1.out _) ?_; rintro e wc6 ⟨rfl, hbc6⟩; have bc6_0 := Blk.ext (Blk.alloc bc5_0 _) hbc6; have bc6_1 := Blk.ext (Blk.alloc bc5_1 _) hbc6; have bc6_2 := Blk.ext (Blk.alloc bc5_2 _) hbc6; have bc6_3 := Blk.ext (Blk.alloc bc5_3 _) hbc6; have bc6_4 := Blk.ext (Blk.new' (t := 27) (cs := #[.int .i64 x.a, .int .i64 x.b, .int .i64 x.c, .int .i64 x.d]) rfl) hbc6; have ec6 := Ext.trans (Ext.alloc ec5 _) hbc6; clear hbc6; have lc6_0 := bc6_0.lt; obtain ⟨sc6_0, -⟩ := bc6_0.walk; have lc6_1 := bc6_1.lt; obtain ⟨sc6_1, -⟩ := bc6_1.walk; have lc6_2 := bc6_2.lt; obtain ⟨sc6_2, -⟩ := bc6_2.walk; have lc6_3 := bc6_3.lt; obtain ⟨sc6_3, -⟩ := bc6_3.walk; have lc6_4 := bc6_4.lt; obtain ⟨sc6_4, -⟩ := bc6_4.walk)
          | (go_at_call 8; with_reducible refine Calls.mono (hd2.out _) ?_; rintro e wc7 ⟨rfl, hbc7⟩; have bc7_0 := Blk.ext (Blk.alloc bc6_0 _) hbc7; have bc7_1 := Blk.ext (Blk.alloc bc6_1 _) hbc7; have bc7_2 := Blk.ext (Blk.alloc bc6_2 _) hbc7; have bc7_3 := Blk.ext (Blk.alloc bc6_3 _) hbc7; have bc7_4 := Blk.ext (Blk.alloc bc6_4 _) hbc7; have bc7_5 := Blk.ext (Blk.new' (t := 27) (cs := #[.int .i64 z.a, .int .i64 z.b, .int .i64 z.c, .int .i64 z.d]) rfl) hbc7; have ec7 := Ext.trans (Ext.alloc ec6 _) hbc7; clear hbc7; have lc7_0 := bc7_0.lt; obtain ⟨sc7_0, -⟩ := bc7_0.walk; have lc7_1 := bc7_1.lt; obtain ⟨sc7_1, -⟩ := bc7_1.walk; have lc7_2 := bc7_2.lt; obtain ⟨sc7_2, -⟩ := bc7_2.walk; have lc7_3 := bc7_3.lt; obtain ⟨sc7_3, -⟩ := bc7_3.walk; have lc7_4 := bc7_4.lt; obtain ⟨sc7_4, -⟩ := bc7_4.walk; have lc7_5 := bc7_5.lt; obtain ⟨sc7_5, -⟩ := bc7_5.walk)
          | (go_at_call 12; with_reducible refine Calls.mono (hc1.out _) ?_; rintro e wc8 ⟨rfl, hbc8⟩; have bc8_0 := Blk.ext (Blk.alloc bc7_0 _) hbc8; have bc8_1 := Blk.ext (Blk.alloc bc7_1 _) hbc8; have bc8_2 := Blk.ext (Blk.alloc bc7_2 _) hbc8; have bc8_3 := Blk.ext (Blk.alloc bc7_3 _) hbc8; have bc8_4 := Blk.ext (Blk.alloc bc7_4 _) hbc8; have bc8_5 := Blk.ext (Blk.alloc bc7_5 _) hbc8; have bc8_6 := Blk.ext (Blk.new' (t := 27) (cs := #[.int .i64 x.a, .int .i64 x.b, .int .i64 x.c, .int .i64 x.d]) rfl) hbc8; have ec8 := Ext.trans (Ext.alloc ec7 _) hbc8; clear hbc8; have lc8_0 := bc8_0.lt; obtain ⟨sc8_0, -⟩ := bc8_0.walk; have lc8_1 := bc8_1.lt; obtain ⟨sc8_1, -⟩ := bc8_1.walk; have lc8_2 := bc8_2.lt; obtain ⟨sc8_2, -⟩ := bc8_2.walk; have lc8_3 := bc8_3.lt; obtain ⟨sc8_3, -⟩ := bc8_3.walk; have lc8_4 := bc8_4.lt; obtain ⟨sc8_4, -⟩ := bc8_4.walk; have lc8_5 := bc8_5.lt; obtain ⟨sc8_5, -⟩ := bc8_5.walk; have lc8_6 := bc8_6.lt; obtain ⟨sc8_6, -⟩ := bc8_6.walk)
          | (go_at_call 12; with_reducible refine Calls.mono (hc2.out _) ?_; rintro e wc9 ⟨rfl, hbc9⟩; have bc9_0 := Blk.ext bc8_0 hbc9; have bc9_1 := Blk.ext bc8_1 hbc9; have bc9_2 := Blk.ext bc8_2 hbc9; have bc9_3 := Blk.ext bc8_3 hbc9; have bc9_4 := Blk.ext bc8_4 hbc9; have bc9_5 := Blk.ext bc8_5 hbc9; have bc9_6 := Blk.ext bc8_6 hbc9; have ec9 := Ext.trans ec8 hbc9; clear hbc9; have lc9_0 := bc9_0.lt; obtain ⟨sc9_0, -⟩ := bc9_0.walk; have lc9_1 := bc9_1.lt; obtain ⟨sc9_1, -⟩ := bc9_1.walk; have lc9_2 := bc9_2.lt; obtain ⟨sc9_2, -⟩ := bc9_2.walk; have lc9_3 := bc9_3.lt; obtain ⟨sc9_3, -⟩ := bc9_3.walk; have lc9_4 := bc9_4.lt; obtain ⟨sc9_4, -⟩ := bc9_4.walk; have lc9_5 := bc9_5.lt; obtain ⟨sc9_5, -⟩ := bc9_5.walk; have lc9_6 := bc9_6.lt; obtain ⟨sc9_6, -⟩ := bc9_6.walk)
          | (go_at_call 13; with_reducible refine Calls.mono (hn1.out _ (by exact ht.ext ec9)) ?_; rintro e wc10 ⟨rfl, hbc10⟩; have bc10_0 := Blk.ext bc9_0 hbc10; have bc10_1 := Blk.ext bc9_1 hbc10; have bc10_2 := Blk.ext bc9_2 hbc10; have bc10_3 := Blk.ext bc9_3 hbc10; have bc10_4 := Blk.ext bc9_4 hbc10; have bc10_5 := Blk.ext bc9_5 hbc10; have bc10_6 := Blk.ext bc9_6 hbc10; have ec10 := Ext.trans ec9 hbc10; clear hbc10; have lc10_0 := bc10_0.lt; obtain ⟨sc10_0, -⟩ := bc10_0.walk; have lc10_1 := bc10_1.lt; obtain ⟨sc10_1, -⟩ := bc10_1.walk; have lc10_2 := bc10_2.lt; obtain ⟨sc10_2, -⟩ := bc10_2.walk; have lc10_3 := bc10_3.lt; obtain ⟨sc10_3, -⟩ := bc10_3.walk; have lc10_4 := bc10_4.lt; obtain ⟨sc10_4, -⟩ := bc10_4.walk; have lc10_5 := bc10_5.lt; obtain ⟨sc10_5, -⟩ := bc10_5.walk; have lc10_6 := bc10_6.lt; obtain ⟨sc10_6, -⟩ := bc10_6.walk)
          | (go_at_call 14; with_reducible refine Calls.mono (hn2.out _) ?_; rintro e wc11 ⟨rfl, hbc11⟩; have bc11_0 := Blk.ext bc10_0 hbc11; have bc11_1 := Blk.ext bc10_1 hbc11; have bc11_2 := Blk.ext bc10_2 hbc11; have bc11_3 := Blk.ext bc10_3 hbc11; have bc11_4 := Blk.ext bc10_4 hbc11; have bc11_5 := Blk.ext bc10_5 hbc11; have bc11_6 := Blk.ext bc10_6 hbc11; have ec11 := Ext.trans ec10 hbc11; clear hbc11; have lc11_0 := bc11_0.lt; obtain ⟨sc11_0, -⟩ := bc11_0.walk; have lc11_1 := bc11_1.lt; obtain ⟨sc11_1, -⟩ := bc11_1.walk; have lc11_2 := bc11_2.lt; obtain ⟨sc11_2, -⟩ := bc11_2.walk; have lc11_3 := bc11_3.lt; obtain ⟨sc11_3, -⟩ := bc11_3.walk; have lc11_4 := bc11_4.lt; obtain ⟨sc11_4, -⟩ := bc11_4.walk; have lc11_5 := bc11_5.lt; obtain ⟨sc11_5, -⟩ := bc11_5.walk; have lc11_6 := bc11_6.lt; obtain ⟨sc11_6, -⟩ := bc11_6.walk))
        have hcv : cv = 0 ∨ cv = -1 ∨ cv = 1 := by omega
        clear hd1 hq1 ho1 hs1 hc1 hc2 hn1 hn2 hf1 hf2
        rcases hcv with rfl | rfl | rfl
        · obtain rfl := hcz.1 rfl
          clear hcz hc3
          go_wp2_with (go_at_call 7; refine (ready_any B _ (by exact ht.ext ec11)).mono ?_; rintro e wz ⟨rfl, hz⟩)
          all_goals
            go_ret
            exact ⟨rfl, ec11.trans hz⟩
        · have hne : ¬ (x.a = y.a ∧ x.b = y.b ∧ x.c = y.c ∧ x.d = y.d) := fun ⟨a1, a2, a3, a4⟩ => absurd (hcz.2 (I4.eq a1 a2 a3 a4)) (by decide)
          clear hcz hc3
          go_wp2_with (go_at_call 7; refine (ready_any B _ (by exact ht.ext ec11)).mono ?_; rintro e wz ⟨rfl, hz⟩)
          all_goals
            go_ret
            exact ⟨rfl, ec11.trans hz⟩
        · have hne : ¬ (x.a = y.a ∧ x.b = y.b ∧ x.c = y.c ∧ x.d = y.d) := fun ⟨a1, a2, a3, a4⟩ => absurd (hcz.2 (I4.eq a1 a2 a3 a4)) (by decide)
          clear hcz hc3
          go_wp2_with (go_at_call 7; refine (ready_any B _ (by exact ht.ext ec11)).mono ?_; rintro e wz ⟨rfl, hz⟩)
          all_goals
            go_ret
            exact ⟨rfl, ec11.trans hz⟩

end Go.Proofs.YtebhjmknlhmmdaaGreatDoor
