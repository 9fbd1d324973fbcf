/- The law of intervals: it answers true. Conditions: the argument is a list of ints that lies in memory. -/
import Derived.Test.YtolglfpnfeklkaaDoorTuneI
import Derived.Test.YtolglfpnfeklkaaDoorTuneL
import Derived.Test.YtolglfpnfeklkaaDoorTuneN
import Derived.Test.YtolglfpnfeklkaaDoorTuneO
import Derived.Deep.DeepCutAuto
namespace Go.Proofs.YtolglfpnfeklkaaDoor
open Go Go.RowKit

set_option maxRecDepth 100000 in
set_option maxHeartbeats 3200000 in
theorem law_any (w : World) (p : Option Addr) (n c : Nat) (h : Lst w w.heap.size p n) :
    Calls Tryd.prog 3 #[.slice p n c] w fun e w' => e = .returned (.bool true) ∧ Ext w w' := by
  have hS0 : Str (w.alloc (.cells #[.slice p n c, .int .i64 0] 25)) w.heap.size 0 := ⟨p, n, c, 0, Nat.le_refl _, Blk.new' rfl, h.low fun j hj => Below.heap_alloc w _ j hj⟩
  clear h
  go_enter Tryd.func3, Tryd.ntmps3
  go_upto_region 3 with (first
    | (go_at_call 4; with_reducible refine Calls.mono (interval_any w.heap.size 0 _ (by omega) hS0) ?_; rintro e w1 ⟨x, rfl, hS1, hE1⟩)
    | (go_at_call 4; with_reducible refine Calls.mono (interval_any w.heap.size (0 + 20) _ (by omega) hS1) ?_; rintro e w2 ⟨y, rfl, hS2, hE2⟩)
    | (go_at_call 5; with_reducible refine Calls.mono (quotientMade_any w.heap.size (0 + 20 + 20) _ (by omega) hS2) ?_; rintro e w3 ⟨qa, qb, rfl, hqa, hqb, hS3, hE3⟩))
  have hI := Blk.alloc (Blk.alloc (Blk.new' (w := w3) (t := 27) (cs := #[.int .i64 x.a, .int .i64 x.b, .int .i64 x.c, .int .i64 x.d]) rfl) (.cells #[.int .i64 y.a, .int .i64 y.b, .int .i64 y.c, .int .i64 y.d] 27)) (.cells #[.int .i64 qa, .int .i64 qb] 30)
  have hJ := Blk.alloc (Blk.new' (w := w3.alloc (.cells #[.int .i64 x.a, .int .i64 x.b, .int .i64 x.c, .int .i64 x.d] 27)) (t := 27) (cs := #[.int .i64 y.a, .int .i64 y.b, .int .i64 y.c, .int .i64 y.d]) rfl) (.cells #[.int .i64 qa, .int .i64 qb] 30)
  have hQ := Blk.new' (w := (w3.alloc (.cells #[.int .i64 x.a, .int .i64 x.b, .int .i64 x.c, .int .i64 x.d] 27)).alloc (.cells #[.int .i64 y.a, .int .i64 y.b, .int .i64 y.c, .int .i64 y.d] 27)) (t := 30) (cs := #[.int .i64 qa, .int .i64 qb]) rfl
  have hE : Ext w (((w3.alloc (.cells #[.int .i64 x.a, .int .i64 x.b, .int .i64 x.c, .int .i64 x.d] 27)).alloc (.cells #[.int .i64 y.a, .int .i64 y.b, .int .i64 y.c, .int .i64 y.d] 27)).alloc (.cells #[.int .i64 qa, .int .i64 qb] 30)) := ExtS.back (Ext.refl w) (Nat.le_refl _) (((((ExtS.refl _ w).alloc _).trans hE1).trans hE2).trans hE3 |>.alloc _ |>.alloc _ |>.alloc _)
  clear hS0 hS1 hS2 hS3 hE1 hE2 hE3
  simp only [World.size_alloc] at hJ hQ
  have hor : orF [faultI x, faultI y] = if rightB x && rightB y then 0 else 1 := by
    unfold orF orF orF faultI
    cases rightB x <;> cases rightB y <;> rfl
  cases ha : rightB x
  · have hab : bothB x y = false := by unfold bothB; rw [ha]; rfl
    have hfa : faultI x = 1 := by unfold faultI; rw [ha]; rfl
    have hoo : orF [1, faultI y] = 1 := by simp [orF]
    clear hor
    refine wp_region_planS [(0, true), (1, true), (2, true), (3, true), (4, true), (5, true)] 6 (fun w' => Blk w' w3.heap.size 27 #[.int .i64 x.a, .int .i64 x.b, .int .i64 x.c, .int .i64 x.d] ∧ Blk w' (w3.heap.size + 1) 27 #[.int .i64 y.a, .int .i64 y.b, .int .i64 y.c, .int .i64 y.d] ∧ Blk w' (w3.heap.size + 1 + 1) 30 #[.int .i64 qa, .int .i64 qb] ∧ Ext w w') Ext (by kernel_rfl) (by kernel_rfl) Ext.refl (fun _ _ _ => Ext.trans) (fun _ _ h he => ⟨h.1.ext he, h.2.1.ext he, h.2.2.1.ext he, h.2.2.2.trans he⟩) ⟨(by (repeat (with_reducible first | assumption | exact Blk.new' (by simp) | refine Blk.drew ?_ | refine Blk.alloc ?_ _ | exact Ext.refl _ | refine Ext.drew ?_ | refine Ext.alloc ?_ _))), (by (repeat (with_reducible first | assumption | exact Blk.new' (by simp) | refine Blk.drew ?_ | refine Blk.alloc ?_ _ | exact Ext.refl _ | refine Ext.drew ?_ | refine Ext.alloc ?_ _))), (by (repeat (with_reducible first | assumption | exact Blk.new' (by simp) | refine Blk.drew ?_ | refine Blk.alloc ?_ _ | exact Ext.refl _ | refine Ext.drew ?_ | refine Ext.alloc ?_ _))), (by (repeat (with_reducible first | assumption | exact Blk.new' (by simp) | refine Blk.drew ?_ | refine Blk.alloc ?_ _ | exact Ext.refl _ | refine Ext.drew ?_ | refine Ext.alloc ?_ _)))⟩ ?_
    repeat
      first
        | (refine plan_quiet rfl rfl (fun _ _ _ _ h => h) ?_
           apply Exists.intro
           refine ⟨fun w' hw' => ?_, ?_⟩
           · obtain ⟨hH0, hH1, hH2, hH3⟩ := hw'
             unfold Blk at hH0 hH1 hH2
             simp [go_sem, quietTo, World.cell?, hH0, hH1, hH2, Ext.refl, ↓IntWalk.iteOmega, hfa]
             first
               | rfl
               | (with_reducible exact intervalFault_any x _)
               | (with_reducible exact intervalFault_any y _)
           simp only [Act.put, List.setIfInBounds_toArray, List.set_cons_succ, List.set_cons_zero])
        | (refine plan_skip rfl rfl (fun _ _ _ _ h => h) ?_
           simp only [Act.put, List.setIfInBounds_toArray, List.set_cons_succ, List.set_cons_zero])
    refine plan_nil fun wr her hwr => ?_
    clear her
    obtain ⟨hH0, hH1, hH2, hH3⟩ := hwr
    obtain ⟨hC0, hF0⟩ := hH0.walk
    obtain ⟨hC1, hF1⟩ := hH1.walk
    obtain ⟨hC2, hF2⟩ := hH2.walk
    simp only [List.drop_succ_cons, List.drop_zero, List.drop_nil]
    have l0 := hH0.lt
    have l1 := hH1.lt
    have l2 := hH2.lt
    go_wp2_with (first
      | (go_at_call 7; refine (orErr_blk _ _ 2 [1, faultI y] _ (by simp) (Blk.new' rfl)).mono ?_; rintro e w9 ⟨rfl, rfl⟩; rw [hoo])
      | (go_at_call 8; with_reducible refine Calls.mono (checkInterval_any x _) ?_; rintro e wc1 ⟨rfl, hbc1⟩; have bc1_0 := Blk.ext (Blk.alloc hH0 _) hbc1; have bc1_1 := Blk.ext (Blk.alloc hH1 _) hbc1; have bc1_2 := Blk.ext (Blk.alloc hH2 _) hbc1; have ec1 := Ext.trans (Ext.alloc hH3 _) hbc1; clear hbc1; have lc1_0 := bc1_0.lt; obtain ⟨sc1_0, -⟩ := bc1_0.walk; have lc1_1 := bc1_1.lt; obtain ⟨sc1_1, -⟩ := bc1_1.walk; have lc1_2 := bc1_2.lt; obtain ⟨sc1_2, -⟩ := bc1_2.walk)
      | (go_at_call 9; with_reducible refine Calls.mono (of_any qa qb _ (by omega) (by omega)) ?_; rintro e wc2 ⟨rfl, hbc2⟩; have bc2_0 := Blk.ext bc1_0 hbc2; have bc2_1 := Blk.ext bc1_1 hbc2; have bc2_2 := Blk.ext bc1_2 hbc2; have ec2 := Ext.trans ec1 hbc2; clear hbc2; have lc2_0 := bc2_0.lt; obtain ⟨sc2_0, -⟩ := bc2_0.walk; have lc2_1 := bc2_1.lt; obtain ⟨sc2_1, -⟩ := bc2_1.walk; have lc2_2 := bc2_2.lt; obtain ⟨sc2_2, -⟩ := bc2_2.walk)
      | (go_at_call 10; with_reducible refine Calls.mono (iof_any qa qb _ (by omega) (by omega)) ?_; rintro e wc3 ⟨rfl, hbc3⟩; have bc3_0 := Blk.ext (Blk.alloc bc2_0 _) hbc3; have bc3_1 := Blk.ext (Blk.alloc bc2_1 _) hbc3; have bc3_2 := Blk.ext (Blk.alloc bc2_2 _) hbc3; have bc3_3 := Blk.ext (Blk.new' (t := 27) (cs := #[.int .i64 (ofW qa qb).a, .int .i64 (ofW qa qb).b, .int .i64 (ofW qa qb).c, .int .i64 (ofW qa qb).d]) rfl) hbc3; have ec3 := Ext.trans (Ext.alloc ec2 _) hbc3; clear hbc3; have lc3_0 := bc3_0.lt; obtain ⟨sc3_0, -⟩ := bc3_0.walk; have lc3_1 := bc3_1.lt; obtain ⟨sc3_1, -⟩ := bc3_1.walk; have lc3_2 := bc3_2.lt; obtain ⟨sc3_2, -⟩ := bc3_2.walk; have lc3_3 := bc3_3.lt; obtain ⟨sc3_3, -⟩ := bc3_3.walk)
      | (go_at_call 11; with_reducible refine Calls.mono (quo0_any x _ ha) ?_; rintro e wc4 ⟨rfl, hbc4⟩; have bc4_0 := Blk.ext (Blk.alloc bc3_0 _) hbc4; have bc4_1 := Blk.ext (Blk.alloc bc3_1 _) hbc4; have bc4_2 := Blk.ext (Blk.alloc bc3_2 _) hbc4; have bc4_3 := Blk.ext (Blk.alloc bc3_3 _) hbc4; have bc4_4 := Blk.ext (Blk.new' (t := 27) (cs := #[.int .i64 (ofW qa qb).a, .int .i64 (ofW qa qb).b, .int .i64 (ofW qa qb).c, .int .i64 (ofW qa qb).d]) rfl) hbc4; have ec4 := Ext.trans (Ext.alloc ec3 _) hbc4; clear hbc4; have lc4_0 := bc4_0.lt; obtain ⟨sc4_0, -⟩ := bc4_0.walk; have lc4_1 := bc4_1.lt; obtain ⟨sc4_1, -⟩ := bc4_1.walk; have lc4_2 := bc4_2.lt; obtain ⟨sc4_2, -⟩ := bc4_2.walk; have lc4_3 := bc4_3.lt; obtain ⟨sc4_3, -⟩ := bc4_3.walk; have lc4_4 := bc4_4.lt; obtain ⟨sc4_4, -⟩ := bc4_4.walk)
      | (go_at_call 12; with_reducible refine Calls.mono (within0_any x _ ha) ?_; rintro e wc5 ⟨rfl, hbc5⟩; have bc5_0 := Blk.ext (Blk.alloc bc4_0 _) hbc5; have bc5_1 := Blk.ext (Blk.alloc bc4_1 _) hbc5; have bc5_2 := Blk.ext (Blk.alloc bc4_2 _) hbc5; have bc5_3 := Blk.ext (Blk.alloc bc4_3 _) hbc5; have bc5_4 := Blk.ext (Blk.alloc bc4_4 _) hbc5; have bc5_5 := Blk.ext (Blk.new' (t := 30) (cs := #[.int .i64 0, .int .i64 0]) rfl) hbc5; have ec5 := Ext.trans (Ext.alloc ec4 _) hbc5; clear hbc5; have lc5_0 := bc5_0.lt; obtain ⟨sc5_0, -⟩ := bc5_0.walk; have lc5_1 := bc5_1.lt; obtain ⟨sc5_1, -⟩ := bc5_1.walk; have lc5_2 := bc5_2.lt; obtain ⟨sc5_2, -⟩ := bc5_2.walk; have lc5_3 := bc5_3.lt; obtain ⟨sc5_3, -⟩ := bc5_3.walk; have lc5_4 := bc5_4.lt; obtain ⟨sc5_4, -⟩ := bc5_4.walk; have lc5_5 := bc5_5.lt; obtain ⟨sc5_5, -⟩ := bc5_5.walk)
      | (go_at_call 15; with_reducible refine Calls.mono (sum0_any x y _ hab) ?_; rintro e wc6 ⟨rfl, hbc6⟩; have bc6_0 := Blk.ext (Blk.alloc bc5_0 _) hbc6; have bc6_1 := Blk.ext (Blk.alloc bc5_1 _) hbc6; have bc6_2 := Blk.ext (Blk.alloc bc5_2 _) hbc6; have bc6_3 := Blk.ext (Blk.alloc bc5_3 _) hbc6; have bc6_4 := Blk.ext (Blk.alloc bc5_4 _) hbc6; have bc6_5 := Blk.ext (Blk.alloc bc5_5 _) hbc6; have bc6_6 := Blk.ext (Blk.new' (t := 27) (cs := #[.int .i64 0, .int .i64 0, .int .i64 0, .int .i64 0]) rfl) hbc6; have ec6 := Ext.trans (Ext.alloc ec5 _) hbc6; clear hbc6; have lc6_0 := bc6_0.lt; obtain ⟨sc6_0, -⟩ := bc6_0.walk; have lc6_1 := bc6_1.lt; obtain ⟨sc6_1, -⟩ := bc6_1.walk; have lc6_2 := bc6_2.lt; obtain ⟨sc6_2, -⟩ := bc6_2.walk; have lc6_3 := bc6_3.lt; obtain ⟨sc6_3, -⟩ := bc6_3.walk; have lc6_4 := bc6_4.lt; obtain ⟨sc6_4, -⟩ := bc6_4.walk; have lc6_5 := bc6_5.lt; obtain ⟨sc6_5, -⟩ := bc6_5.walk; have lc6_6 := bc6_6.lt; obtain ⟨sc6_6, -⟩ := bc6_6.walk)
      | (go_at_call 16; with_reducible refine Calls.mono (dif0_any x y _ hab) ?_; rintro e wc7 ⟨rfl, hbc7⟩; have bc7_0 := Blk.ext (Blk.alloc bc6_0 _) hbc7; have bc7_1 := Blk.ext (Blk.alloc bc6_1 _) hbc7; have bc7_2 := Blk.ext (Blk.alloc bc6_2 _) hbc7; have bc7_3 := Blk.ext (Blk.alloc bc6_3 _) hbc7; have bc7_4 := Blk.ext (Blk.alloc bc6_4 _) hbc7; have bc7_5 := Blk.ext (Blk.alloc bc6_5 _) hbc7; have bc7_6 := Blk.ext (Blk.alloc bc6_6 _) hbc7; have bc7_7 := Blk.ext (Blk.new' (t := 27) (cs := #[.int .i64 0, .int .i64 0, .int .i64 0, .int .i64 0]) rfl) hbc7; have ec7 := Ext.trans (Ext.alloc ec6 _) hbc7; clear hbc7; have lc7_0 := bc7_0.lt; obtain ⟨sc7_0, -⟩ := bc7_0.walk; have lc7_1 := bc7_1.lt; obtain ⟨sc7_1, -⟩ := bc7_1.walk; have lc7_2 := bc7_2.lt; obtain ⟨sc7_2, -⟩ := bc7_2.walk; have lc7_3 := bc7_3.lt; obtain ⟨sc7_3, -⟩ := bc7_3.walk; have lc7_4 := bc7_4.lt; obtain ⟨sc7_4, -⟩ := bc7_4.walk; have lc7_5 := bc7_5.lt; obtain ⟨sc7_5, -⟩ := bc7_5.walk; have lc7_6 := bc7_6.lt; obtain ⟨sc7_6, -⟩ := bc7_6.walk; have lc7_7 := bc7_7.lt; obtain ⟨sc7_7, -⟩ := bc7_7.walk)
      | (go_at_call 17; with_reducible refine Calls.mono (com0_any x y _ hab) ?_; rintro e wc8 ⟨rfl, hbc8⟩; have bc8_0 := Blk.ext (Blk.alloc bc7_0 _) hbc8; have bc8_1 := Blk.ext (Blk.alloc bc7_1 _) hbc8; have bc8_2 := Blk.ext (Blk.alloc bc7_2 _) hbc8; have bc8_3 := Blk.ext (Blk.alloc bc7_3 _) hbc8; have bc8_4 := Blk.ext (Blk.alloc bc7_4 _) hbc8; have bc8_5 := Blk.ext (Blk.alloc bc7_5 _) hbc8; have bc8_6 := Blk.ext (Blk.alloc bc7_6 _) hbc8; have bc8_7 := Blk.ext (Blk.alloc bc7_7 _) hbc8; have bc8_8 := Blk.ext (Blk.new' (t := 27) (cs := #[.int .i64 0, .int .i64 0, .int .i64 0, .int .i64 0]) rfl) hbc8; have ec8 := Ext.trans (Ext.alloc ec7 _) hbc8; clear hbc8; have lc8_0 := bc8_0.lt; obtain ⟨sc8_0, -⟩ := bc8_0.walk; have lc8_1 := bc8_1.lt; obtain ⟨sc8_1, -⟩ := bc8_1.walk; have lc8_2 := bc8_2.lt; obtain ⟨sc8_2, -⟩ := bc8_2.walk; have lc8_3 := bc8_3.lt; obtain ⟨sc8_3, -⟩ := bc8_3.walk; have lc8_4 := bc8_4.lt; obtain ⟨sc8_4, -⟩ := bc8_4.walk; have lc8_5 := bc8_5.lt; obtain ⟨sc8_5, -⟩ := bc8_5.walk; have lc8_6 := bc8_6.lt; obtain ⟨sc8_6, -⟩ := bc8_6.walk; have lc8_7 := bc8_7.lt; obtain ⟨sc8_7, -⟩ := bc8_7.walk; have lc8_8 := bc8_8.lt; obtain ⟨sc8_8, -⟩ := bc8_8.walk)
      | (go_at_call 18; with_reducible refine Calls.mono (tuned_any _) ?_; rintro e wc9 ⟨rfl, hbc9⟩; have bc9_0 := Blk.ext bc8_0 hbc9; have bc9_1 := Blk.ext bc8_1 hbc9; have bc9_2 := Blk.ext bc8_2 hbc9; have bc9_3 := Blk.ext bc8_3 hbc9; have bc9_4 := Blk.ext bc8_4 hbc9; have bc9_5 := Blk.ext bc8_5 hbc9; have bc9_6 := Blk.ext bc8_6 hbc9; have bc9_7 := Blk.ext bc8_7 hbc9; have bc9_8 := Blk.ext bc8_8 hbc9; have ec9 := Ext.trans ec8 hbc9; clear hbc9; have lc9_0 := bc9_0.lt; obtain ⟨sc9_0, -⟩ := bc9_0.walk; have lc9_1 := bc9_1.lt; obtain ⟨sc9_1, -⟩ := bc9_1.walk; have lc9_2 := bc9_2.lt; obtain ⟨sc9_2, -⟩ := bc9_2.walk; have lc9_3 := bc9_3.lt; obtain ⟨sc9_3, -⟩ := bc9_3.walk; have lc9_4 := bc9_4.lt; obtain ⟨sc9_4, -⟩ := bc9_4.walk; have lc9_5 := bc9_5.lt; obtain ⟨sc9_5, -⟩ := bc9_5.walk; have lc9_6 := bc9_6.lt; obtain ⟨sc9_6, -⟩ := bc9_6.walk; have lc9_7 := bc9_7.lt; obtain ⟨sc9_7, -⟩ := bc9_7.walk; have lc9_8 := bc9_8.lt; obtain ⟨sc9_8, -⟩ := bc9_8.walk))
    go_ret
    exact ⟨rfl, ec9⟩
  · have hfa : faultI x = 0 := by unfold faultI; rw [ha]; rfl
    have hoo : orF [0, faultI y] = faultI y := by unfold orF orF orF; rw [if_pos rfl]; split <;> simp [*]
    clear hor
    refine wp_region_planS [(0, true), (1, true), (2, true), (3, true), (4, true), (5, true)] 6 (fun w' => Blk w' w3.heap.size 27 #[.int .i64 x.a, .int .i64 x.b, .int .i64 x.c, .int .i64 x.d] ∧ Blk w' (w3.heap.size + 1) 27 #[.int .i64 y.a, .int .i64 y.b, .int .i64 y.c, .int .i64 y.d] ∧ Blk w' (w3.heap.size + 1 + 1) 30 #[.int .i64 qa, .int .i64 qb] ∧ Ext w w') Ext (by kernel_rfl) (by kernel_rfl) Ext.refl (fun _ _ _ => Ext.trans) (fun _ _ h he => ⟨h.1.ext he, h.2.1.ext he, h.2.2.1.ext he, h.2.2.2.trans he⟩) ⟨(by (repeat (with_reducible first | assumption | exact Blk.new' (by simp) | refine Blk.drew ?_ | refine Blk.alloc ?_ _ | exact Ext.refl _ | refine Ext.drew ?_ | refine Ext.alloc ?_ _))), (by (repeat (with_reducible first | assumption | exact Blk.new' (by simp) | refine Blk.drew ?_ | refine Blk.alloc ?_ _ | exact Ext.refl _ | refine Ext.drew ?_ | refine Ext.alloc ?_ _))), (by (repeat (with_reducible first | assumption | exact Blk.new' (by simp) | refine Blk.drew ?_ | refine Blk.alloc ?_ _ | exact Ext.refl _ | refine Ext.drew ?_ | refine Ext.alloc ?_ _))), (by (repeat (with_reducible first | assumption | exact Blk.new' (by simp) | refine Blk.drew ?_ | refine Blk.alloc ?_ _ | exact Ext.refl _ | refine Ext.drew ?_ | refine Ext.alloc ?_ _)))⟩ ?_
    repeat
      first
        | (refine plan_quiet rfl rfl (fun _ _ _ _ h => h) ?_
           apply Exists.intro
           refine ⟨fun w' hw' => ?_, ?_⟩
           · obtain ⟨hH0, hH1, hH2, hH3⟩ := hw'
             unfold Blk at hH0 hH1 hH2
             simp [go_sem, quietTo, World.cell?, hH0, hH1, hH2, Ext.refl, ↓IntWalk.iteOmega, hfa]
             first
               | rfl
               | (with_reducible exact intervalFault_any x _)
               | (with_reducible exact intervalFault_any y _)
           simp only [Act.put, List.setIfInBounds_toArray, List.set_cons_succ, List.set_cons_zero])
        | (refine plan_skip rfl rfl (fun _ _ _ _ h => h) ?_
           simp only [Act.put, List.setIfInBounds_toArray, List.set_cons_succ, List.set_cons_zero])
    refine plan_nil fun wr her hwr => ?_
    clear her
    obtain ⟨hH0, hH1, hH2, hH3⟩ := hwr
    obtain ⟨hC0, hF0⟩ := hH0.walk
    obtain ⟨hC1, hF1⟩ := hH1.walk
    obtain ⟨hC2, hF2⟩ := hH2.walk
    simp only [List.drop_succ_cons, List.drop_zero, List.drop_nil]
    have l0 := hH0.lt
    have l1 := hH1.lt
    have l2 := hH2.lt
    go_upto_region 16 with (first
      | (go_at_call 7; refine (orErr_blk _ _ 2 [0, faultI y] _ (by simp) (Blk.new' rfl)).mono ?_; rintro e w9 ⟨rfl, rfl⟩; rw [hoo])
      | (go_at_call 8; with_reducible refine Calls.mono (checkInterval_any x _) ?_; rintro e wc1 ⟨rfl, hbc1⟩; have bc1_0 := Blk.ext (Blk.alloc hH0 _) hbc1; have bc1_1 := Blk.ext (Blk.alloc hH1 _) hbc1; have bc1_2 := Blk.ext (Blk.alloc hH2 _) hbc1; have ec1 := Ext.trans (Ext.alloc hH3 _) hbc1; clear hbc1; have lc1_0 := bc1_0.lt; obtain ⟨sc1_0, -⟩ := bc1_0.walk; have lc1_1 := bc1_1.lt; obtain ⟨sc1_1, -⟩ := bc1_1.walk; have lc1_2 := bc1_2.lt; obtain ⟨sc1_2, -⟩ := bc1_2.walk)
      | (go_at_call 9; with_reducible refine Calls.mono (of_any qa qb _ (by omega) (by omega)) ?_; rintro e wc2 ⟨rfl, hbc2⟩; have bc2_0 := Blk.ext bc1_0 hbc2; have bc2_1 := Blk.ext bc1_1 hbc2; have bc2_2 := Blk.ext bc1_2 hbc2; have ec2 := Ext.trans ec1 hbc2; clear hbc2; have lc2_0 := bc2_0.lt; obtain ⟨sc2_0, -⟩ := bc2_0.walk; have lc2_1 := bc2_1.lt; obtain ⟨sc2_1, -⟩ := bc2_1.walk; have lc2_2 := bc2_2.lt; obtain ⟨sc2_2, -⟩ := bc2_2.walk)
      | (go_at_call 10; with_reducible refine Calls.mono (iof_any qa qb _ (by omega) (by omega)) ?_; rintro e wc3 ⟨rfl, hbc3⟩; have bc3_0 := Blk.ext (Blk.alloc bc2_0 _) hbc3; have bc3_1 := Blk.ext (Blk.alloc bc2_1 _) hbc3; have bc3_2 := Blk.ext (Blk.alloc bc2_2 _) hbc3; have bc3_3 := Blk.ext (Blk.new' (t := 27) (cs := #[.int .i64 (ofW qa qb).a, .int .i64 (ofW qa qb).b, .int .i64 (ofW qa qb).c, .int .i64 (ofW qa qb).d]) rfl) hbc3; have ec3 := Ext.trans (Ext.alloc ec2 _) hbc3; clear hbc3; have lc3_0 := bc3_0.lt; obtain ⟨sc3_0, -⟩ := bc3_0.walk; have lc3_1 := bc3_1.lt; obtain ⟨sc3_1, -⟩ := bc3_1.walk; have lc3_2 := bc3_2.lt; obtain ⟨sc3_2, -⟩ := bc3_2.walk; have lc3_3 := bc3_3.lt; obtain ⟨sc3_3, -⟩ := bc3_3.walk)
      | (go_at_call 11; with_reducible refine Calls.mono (quo1_any x _ ha) ?_; rintro e wc4 ⟨rfl, hbc4⟩; have bc4_0 := Blk.ext (Blk.alloc bc3_0 _) hbc4; have bc4_1 := Blk.ext (Blk.alloc bc3_1 _) hbc4; have bc4_2 := Blk.ext (Blk.alloc bc3_2 _) hbc4; have bc4_3 := Blk.ext (Blk.alloc bc3_3 _) hbc4; have bc4_4 := Blk.ext (Blk.new' (t := 27) (cs := #[.int .i64 (ofW qa qb).a, .int .i64 (ofW qa qb).b, .int .i64 (ofW qa qb).c, .int .i64 (ofW qa qb).d]) rfl) hbc4; have ec4 := Ext.trans (Ext.alloc ec3 _) hbc4; clear hbc4; have lc4_0 := bc4_0.lt; obtain ⟨sc4_0, -⟩ := bc4_0.walk; have lc4_1 := bc4_1.lt; obtain ⟨sc4_1, -⟩ := bc4_1.walk; have lc4_2 := bc4_2.lt; obtain ⟨sc4_2, -⟩ := bc4_2.walk; have lc4_3 := bc4_3.lt; obtain ⟨sc4_3, -⟩ := bc4_3.walk; have lc4_4 := bc4_4.lt; obtain ⟨sc4_4, -⟩ := bc4_4.walk)
      | (go_at_call 12; with_reducible refine Calls.mono (within1_any x _ ha) ?_; rintro e wc5 ⟨rfl, hbc5⟩; have bc5_0 := Blk.ext (Blk.alloc bc4_0 _) hbc5; have bc5_1 := Blk.ext (Blk.alloc bc4_1 _) hbc5; have bc5_2 := Blk.ext (Blk.alloc bc4_2 _) hbc5; have bc5_3 := Blk.ext (Blk.alloc bc4_3 _) hbc5; have bc5_4 := Blk.ext (Blk.alloc bc4_4 _) hbc5; have bc5_5 := Blk.ext (Blk.new' (t := 30) (cs := #[.int .i64 (qn x 4 : Nat), .int .i64 (qd x 4 : Nat)]) rfl) hbc5; have ec5 := Ext.trans (Ext.alloc ec4 _) hbc5; clear hbc5; have lc5_0 := bc5_0.lt; obtain ⟨sc5_0, -⟩ := bc5_0.walk; have lc5_1 := bc5_1.lt; obtain ⟨sc5_1, -⟩ := bc5_1.walk; have lc5_2 := bc5_2.lt; obtain ⟨sc5_2, -⟩ := bc5_2.walk; have lc5_3 := bc5_3.lt; obtain ⟨sc5_3, -⟩ := bc5_3.walk; have lc5_4 := bc5_4.lt; obtain ⟨sc5_4, -⟩ := bc5_4.walk; have lc5_5 := bc5_5.lt; obtain ⟨sc5_5, -⟩ := bc5_5.walk)
      | (go_at_call 13; with_reducible refine Calls.mono (withinOf_any x _ ha) ?_; rintro e wc6 ⟨rfl, hbc6⟩; have bc6_0 := Blk.ext (Blk.alloc bc5_0 _) hbc6; have bc6_1 := Blk.ext (Blk.alloc bc5_1 _) hbc6; have bc6_2 := Blk.ext (Blk.alloc bc5_2 _) hbc6; have bc6_3 := Blk.ext (Blk.alloc bc5_3 _) hbc6; have bc6_4 := Blk.ext (Blk.alloc bc5_4 _) hbc6; have bc6_5 := Blk.ext (Blk.alloc bc5_5 _) hbc6; have bc6_6 := Blk.ext (Blk.new' (t := 27) (cs := #[.int .i64 (okI (shiftI x)).a, .int .i64 (okI (shiftI x)).b, .int .i64 (okI (shiftI x)).c, .int .i64 (okI (shiftI x)).d]) rfl) hbc6; have ec6 := Ext.trans (Ext.alloc ec5 _) hbc6; clear hbc6; have lc6_0 := bc6_0.lt; obtain ⟨sc6_0, -⟩ := bc6_0.walk; have lc6_1 := bc6_1.lt; obtain ⟨sc6_1, -⟩ := bc6_1.walk; have lc6_2 := bc6_2.lt; obtain ⟨sc6_2, -⟩ := bc6_2.walk; have lc6_3 := bc6_3.lt; obtain ⟨sc6_3, -⟩ := bc6_3.walk; have lc6_4 := bc6_4.lt; obtain ⟨sc6_4, -⟩ := bc6_4.walk; have lc6_5 := bc6_5.lt; obtain ⟨sc6_5, -⟩ := bc6_5.walk; have lc6_6 := bc6_6.lt; obtain ⟨sc6_6, -⟩ := bc6_6.walk))
    refine wp_region_planS [(0, true), (1, true), (2, true), (3, true), (4, true), (5, true), (6, true), (7, true), (8, true), (9, true), (10, true), (11, true), (12, true), (13, true), (14, true), (15, true), (16, true), (17, true), (18, true), (19, true), (20, true), (21, true), (22, true)] 23 (fun w' => Blk w' w3.heap.size 27 #[.int .i64 x.a, .int .i64 x.b, .int .i64 x.c, .int .i64 x.d] ∧ Blk w' (w3.heap.size + 1) 27 #[.int .i64 y.a, .int .i64 y.b, .int .i64 y.c, .int .i64 y.d] ∧ Blk w' wc4.heap.size 30 #[.int .i64 (qn x 4 : Nat), .int .i64 (qd x 4 : Nat)] ∧ Blk w' wc5.heap.size 27 #[.int .i64 (okI (shiftI x)).a, .int .i64 (okI (shiftI x)).b, .int .i64 (okI (shiftI x)).c, .int .i64 (okI (shiftI x)).d] ∧ Blk w' wc6.heap.size 27 #[.int .i64 (okI (shiftI x)).a, .int .i64 (okI (shiftI x)).b, .int .i64 (okI (shiftI x)).c, .int .i64 (okI (shiftI x)).d] ∧ Ext w w') Ext (by kernel_rfl) (by kernel_rfl) Ext.refl (fun _ _ _ => Ext.trans) (fun _ _ h he => ⟨h.1.ext he, h.2.1.ext he, h.2.2.1.ext he, h.2.2.2.1.ext he, h.2.2.2.2.1.ext he, h.2.2.2.2.2.trans he⟩) ⟨(by (repeat (with_reducible first | assumption | exact Blk.new' (by simp) | refine Blk.drew ?_ | refine Blk.alloc ?_ _ | exact Ext.refl _ | refine Ext.drew ?_ | refine Ext.alloc ?_ _))), (by (repeat (with_reducible first | assumption | exact Blk.new' (by simp) | refine Blk.drew ?_ | refine Blk.alloc ?_ _ | exact Ext.refl _ | refine Ext.drew ?_ | refine Ext.alloc ?_ _))), (by (repeat (with_reducible first | assumption | exact Blk.new' (by simp) | refine Blk.drew ?_ | refine Blk.alloc ?_ _ | exact Ext.refl _ | refine Ext.drew ?_ | refine Ext.alloc ?_ _))), (by (repeat (with_reducible first | assumption | exact Blk.new' (by simp) | refine Blk.drew ?_ | refine Blk.alloc ?_ _ | exact Ext.refl _ | refine Ext.drew ?_ | refine Ext.alloc ?_ _))), (by (repeat (with_reducible first | assumption | exact Blk.new' (by simp) | refine Blk.drew ?_ | refine Blk.alloc ?_ _ | exact Ext.refl _ | refine Ext.drew ?_ | refine Ext.alloc ?_ _))), (by (repeat (with_reducible first | assumption | exact Blk.new' (by simp) | refine Blk.drew ?_ | refine Blk.alloc ?_ _ | exact Ext.refl _ | refine Ext.drew ?_ | refine Ext.alloc ?_ _)))⟩ ?_
    repeat
      first
        | (refine plan_quiet rfl rfl (fun _ _ _ _ h => h) ?_
           apply Exists.intro
           refine ⟨fun w' hw' => ?_, ?_⟩
           · obtain ⟨hH60, hH61, hH62, hH63, hH64, hH65⟩ := hw'
             unfold Blk at hH60 hH61 hH62 hH63 hH64
             simp [go_sem, quietTo, World.cell?, hH60, hH61, hH62, hH63, hH64, Ext.refl, ↓IntWalk.iteOmega]
             first
               | rfl
               | (with_reducible exact quotientOf_any x _ ha)
           simp only [Act.put, List.setIfInBounds_toArray, List.set_cons_succ, List.set_cons_zero])
        | (refine plan_skip rfl rfl (fun _ _ _ _ h => h) ?_
           simp only [Act.put, List.setIfInBounds_toArray, List.set_cons_succ, List.set_cons_zero])
    refine plan_nil fun wr6 her6 hwr6 => ?_
    clear her6
    obtain ⟨hH60, hH61, hH62, hH63, hH64, hH65⟩ := hwr6
    obtain ⟨hC60, hF60⟩ := hH60.walk
    obtain ⟨hC61, hF61⟩ := hH61.walk
    obtain ⟨hC62, hF62⟩ := hH62.walk
    obtain ⟨hC63, hF63⟩ := hH63.walk
    obtain ⟨hC64, hF64⟩ := hH64.walk
    simp only [List.drop_succ_cons, List.drop_zero, List.drop_nil]
    have m0 := hH60.lt
    have m1 := hH61.lt
    cases hb : rightB y
    · have hab : bothB x y = false := by unfold bothB; rw [ha, hb]; rfl
      have hfb : faultI y = 1 := by unfold faultI; rw [hb]; rfl
      go_wp2_with (first
        | (go_at_call 15; with_reducible refine Calls.mono (sum0_any x y _ hab) ?_; rintro e wc7 ⟨rfl, hbc7⟩; have bc7_0 := Blk.ext hH60 hbc7; have bc7_1 := Blk.ext hH61 hbc7; have ec7 := Ext.trans hH65 hbc7; clear hbc7; have lc7_0 := bc7_0.lt; obtain ⟨sc7_0, -⟩ := bc7_0.walk; have lc7_1 := bc7_1.lt; obtain ⟨sc7_1, -⟩ := bc7_1.walk)
        | (go_at_call 16; with_reducible refine Calls.mono (dif0_any x y _ hab) ?_; rintro e wc8 ⟨rfl, hbc8⟩; have bc8_0 := Blk.ext (Blk.alloc bc7_0 _) hbc8; have bc8_1 := Blk.ext (Blk.alloc bc7_1 _) hbc8; have bc8_2 := Blk.ext (Blk.new' (t := 27) (cs := #[.int .i64 0, .int .i64 0, .int .i64 0, .int .i64 0]) rfl) hbc8; have ec8 := Ext.trans (Ext.alloc ec7 _) hbc8; clear hbc8; have lc8_0 := bc8_0.lt; obtain ⟨sc8_0, -⟩ := bc8_0.walk; have lc8_1 := bc8_1.lt; obtain ⟨sc8_1, -⟩ := bc8_1.walk; have lc8_2 := bc8_2.lt; obtain ⟨sc8_2, -⟩ := bc8_2.walk)
        | (go_at_call 17; with_reducible refine Calls.mono (com0_any x y _ hab) ?_; rintro e wc9 ⟨rfl, hbc9⟩; have bc9_0 := Blk.ext (Blk.alloc bc8_0 _) hbc9; have bc9_1 := Blk.ext (Blk.alloc bc8_1 _) hbc9; have bc9_2 := Blk.ext (Blk.alloc bc8_2 _) hbc9; have bc9_3 := Blk.ext (Blk.new' (t := 27) (cs := #[.int .i64 0, .int .i64 0, .int .i64 0, .int .i64 0]) rfl) hbc9; have ec9 := Ext.trans (Ext.alloc ec8 _) hbc9; clear hbc9; have lc9_0 := bc9_0.lt; obtain ⟨sc9_0, -⟩ := bc9_0.walk; have lc9_1 := bc9_1.lt; obtain ⟨sc9_1, -⟩ := bc9_1.walk; have lc9_2 := bc9_2.lt; obtain ⟨sc9_2, -⟩ := bc9_2.walk; have lc9_3 := bc9_3.lt; obtain ⟨sc9_3, -⟩ := bc9_3.walk)
        | (go_at_call 18; with_reducible refine Calls.mono (tuned_any _) ?_; rintro e wc10 ⟨rfl, hbc10⟩; have bc10_0 := Blk.ext bc9_0 hbc10; have bc10_1 := Blk.ext bc9_1 hbc10; have bc10_2 := Blk.ext bc9_2 hbc10; have bc10_3 := Blk.ext bc9_3 hbc10; have ec10 := Ext.trans ec9 hbc10; clear hbc10; have lc10_0 := bc10_0.lt; obtain ⟨sc10_0, -⟩ := bc10_0.walk; have lc10_1 := bc10_1.lt; obtain ⟨sc10_1, -⟩ := bc10_1.walk; have lc10_2 := bc10_2.lt; obtain ⟨sc10_2, -⟩ := bc10_2.walk; have lc10_3 := bc10_3.lt; obtain ⟨sc10_3, -⟩ := bc10_3.walk))
      go_ret
      exact ⟨rfl, ec10⟩
    · have hab : bothB x y = true := by unfold bothB; rw [ha, hb]; rfl
      have hfb : faultI y = 0 := by unfold faultI; rw [hb]; rfl
      have hs1 := sumOf_any x y 1
      simp only [plus_one x y ha hb] at hs1
      have hs2 := sumOf_any x y (-1)
      simp only [plus_minus x y hb] at hs2
      replace hs1 := Lib.hid hs1
      replace hs2 := Lib.hid hs2
      go_wp2_with (first
        | (go_at_call 15; with_reducible refine Calls.mono (sum1_any x y _ hab) ?_; rintro e wc7 ⟨rfl, hbc7⟩; have bc7_0 := Blk.ext hH60 hbc7; have bc7_1 := Blk.ext hH61 hbc7; have ec7 := Ext.trans hH65 hbc7; clear hbc7; have lc7_0 := bc7_0.lt; obtain ⟨sc7_0, -⟩ := bc7_0.walk; have lc7_1 := bc7_1.lt; obtain ⟨sc7_1, -⟩ := bc7_1.walk)
        | (go_at_call 16; with_reducible refine Calls.mono (dif1_any x y _ hab) ?_; rintro e wc8 ⟨rfl, hbc8⟩; have bc8_0 := Blk.ext (Blk.alloc bc7_0 _) hbc8; have bc8_1 := Blk.ext (Blk.alloc bc7_1 _) hbc8; have bc8_2 := Blk.ext (Blk.new' (t := 27) (cs := #[.int .i64 (okI (addI x y)).a, .int .i64 (okI (addI x y)).b, .int .i64 (okI (addI x y)).c, .int .i64 (okI (addI x y)).d]) rfl) hbc8; have ec8 := Ext.trans (Ext.alloc ec7 _) hbc8; clear hbc8; have lc8_0 := bc8_0.lt; obtain ⟨sc8_0, -⟩ := bc8_0.walk; have lc8_1 := bc8_1.lt; obtain ⟨sc8_1, -⟩ := bc8_1.walk; have lc8_2 := bc8_2.lt; obtain ⟨sc8_2, -⟩ := bc8_2.walk)
        | (go_at_call 17; with_reducible refine Calls.mono (com1_any x y _ hab ha hb) ?_; rintro e wc9 ⟨rfl, hbc9⟩; have bc9_0 := Blk.ext (Blk.alloc bc8_0 _) hbc9; have bc9_1 := Blk.ext (Blk.alloc bc8_1 _) hbc9; have bc9_2 := Blk.ext (Blk.alloc bc8_2 _) hbc9; have bc9_3 := Blk.ext (Blk.new' (t := 27) (cs := #[.int .i64 (okI (addI x (negI y))).a, .int .i64 (okI (addI x (negI y))).b, .int .i64 (okI (addI x (negI y))).c, .int .i64 (okI (addI x (negI y))).d]) rfl) hbc9; have ec9 := Ext.trans (Ext.alloc ec8 _) hbc9; clear hbc9; have lc9_0 := bc9_0.lt; obtain ⟨sc9_0, -⟩ := bc9_0.walk; have lc9_1 := bc9_1.lt; obtain ⟨sc9_1, -⟩ := bc9_1.walk; have lc9_2 := bc9_2.lt; obtain ⟨sc9_2, -⟩ := bc9_2.walk; have lc9_3 := bc9_3.lt; obtain ⟨sc9_3, -⟩ := bc9_3.walk)
        | (go_at_call 19; with_reducible refine Calls.mono (hs1.out _) ?_; rintro e wc10 ⟨rfl, hbc10⟩; have bc10_0 := Blk.ext bc9_0 hbc10; have bc10_1 := Blk.ext bc9_1 hbc10; have bc10_2 := Blk.ext bc9_2 hbc10; have bc10_3 := Blk.ext bc9_3 hbc10; have ec10 := Ext.trans ec9 hbc10; clear hbc10; have lc10_0 := bc10_0.lt; obtain ⟨sc10_0, -⟩ := bc10_0.walk; have lc10_1 := bc10_1.lt; obtain ⟨sc10_1, -⟩ := bc10_1.walk; have lc10_2 := bc10_2.lt; obtain ⟨sc10_2, -⟩ := bc10_2.walk; have lc10_3 := bc10_3.lt; obtain ⟨sc10_3, -⟩ := bc10_3.walk)
        | (go_at_call 19; with_reducible refine Calls.mono (hs2.out _) ?_; rintro e wc11 ⟨rfl, hbc11⟩; have bc11_0 := Blk.ext (Blk.alloc bc10_0 _) hbc11; have bc11_1 := Blk.ext (Blk.alloc bc10_1 _) hbc11; have bc11_2 := Blk.ext (Blk.alloc bc10_2 _) hbc11; have bc11_3 := Blk.ext (Blk.alloc bc10_3 _) hbc11; have bc11_4 := Blk.ext (Blk.new' (t := 27) (cs := #[.int .i64 (okI (addI x y)).a, .int .i64 (okI (addI x y)).b, .int .i64 (okI (addI x y)).c, .int .i64 (okI (addI x y)).d]) rfl) hbc11; have ec11 := Ext.trans (Ext.alloc ec10 _) hbc11; clear hbc11; have lc11_0 := bc11_0.lt; obtain ⟨sc11_0, -⟩ := bc11_0.walk; have lc11_1 := bc11_1.lt; obtain ⟨sc11_1, -⟩ := bc11_1.walk; have lc11_2 := bc11_2.lt; obtain ⟨sc11_2, -⟩ := bc11_2.walk; have lc11_3 := bc11_3.lt; obtain ⟨sc11_3, -⟩ := bc11_3.walk; have lc11_4 := bc11_4.lt; obtain ⟨sc11_4, -⟩ := bc11_4.walk)
        | (go_at_call 20; with_reducible refine Calls.mono (comparedOf_any x y _ ha hb) ?_; rintro e wc12 ⟨rfl, hbc12⟩; have bc12_0 := Blk.ext (Blk.alloc bc11_0 _) hbc12; have bc12_1 := Blk.ext (Blk.alloc bc11_1 _) hbc12; have bc12_2 := Blk.ext (Blk.alloc bc11_2 _) hbc12; have bc12_3 := Blk.ext (Blk.alloc bc11_3 _) hbc12; have bc12_4 := Blk.ext (Blk.alloc bc11_4 _) hbc12; have bc12_5 := Blk.ext (Blk.new' (t := 27) (cs := #[.int .i64 (okI (addI x (negI y))).a, .int .i64 (okI (addI x (negI y))).b, .int .i64 (okI (addI x (negI y))).c, .int .i64 (okI (addI x (negI y))).d]) rfl) hbc12; have ec12 := Ext.trans (Ext.alloc ec11 _) hbc12; clear hbc12; have lc12_0 := bc12_0.lt; obtain ⟨sc12_0, -⟩ := bc12_0.walk; have lc12_1 := bc12_1.lt; obtain ⟨sc12_1, -⟩ := bc12_1.walk; have lc12_2 := bc12_2.lt; obtain ⟨sc12_2, -⟩ := bc12_2.walk; have lc12_3 := bc12_3.lt; obtain ⟨sc12_3, -⟩ := bc12_3.walk; have lc12_4 := bc12_4.lt; obtain ⟨sc12_4, -⟩ := bc12_4.walk; have lc12_5 := bc12_5.lt; obtain ⟨sc12_5, -⟩ := bc12_5.walk)
        | (go_at_call 18; with_reducible refine Calls.mono (tuned_any _) ?_; rintro e wc13 ⟨rfl, hbc13⟩; have bc13_0 := Blk.ext bc12_0 hbc13; have bc13_1 := Blk.ext bc12_1 hbc13; have bc13_2 := Blk.ext bc12_2 hbc13; have bc13_3 := Blk.ext bc12_3 hbc13; have bc13_4 := Blk.ext bc12_4 hbc13; have bc13_5 := Blk.ext bc12_5 hbc13; have ec13 := Ext.trans ec12 hbc13; clear hbc13; have lc13_0 := bc13_0.lt; obtain ⟨sc13_0, -⟩ := bc13_0.walk; have lc13_1 := bc13_1.lt; obtain ⟨sc13_1, -⟩ := bc13_1.walk; have lc13_2 := bc13_2.lt; obtain ⟨sc13_2, -⟩ := bc13_2.walk; have lc13_3 := bc13_3.lt; obtain ⟨sc13_3, -⟩ := bc13_3.walk; have lc13_4 := bc13_4.lt; obtain ⟨sc13_4, -⟩ := bc13_4.walk; have lc13_5 := bc13_5.lt; obtain ⟨sc13_5, -⟩ := bc13_5.walk))
      go_ret
      exact ⟨rfl, ec13⟩

end Go.Proofs.YtolglfpnfeklkaaDoor
