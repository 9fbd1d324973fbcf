/- The law of stands: it answers true. Conditions: the argument is a list of ints that lies in memory. -/
import Derived.Test.YtfmkmnnmckbljaaGreatDoorScSuG
import Derived.Deep.DeepCutAuto
namespace Go.Proofs.YtfmkmnnmckbljaaGreatDoor
open Go Go.RowKit

set_option maxRecDepth 100000 in
set_option maxHeartbeats 12800000 in
theorem lawSC_any (w : World) (p : Option Addr) (n c : Nat) (h : Lst w w.heap.size p n) :
    Calls Tryz.prog 3 #[.slice p n c] w fun e w' => e = .returned (.bool true) ∧ Ext w w' := by
  have hS0 : Str (w.alloc (.cells #[.slice p n c, .int .i64 0] 25)) w.heap.size 0 := ⟨p, n, c, 0, Nat.le_refl _, Blk.new' rfl, h.low fun j hj => Below.heap_alloc w _ j hj⟩
  clear h
  go_enter Tryz.func3, Tryz.ntmps3
  go_upto_region 3 with (go_at_call 5; (with_reducible refine Calls.mono (put_any w.heap.size 0 9 _ (by omega) (by omega) (by exact hS0)) ?_); rintro e w1 ⟨pp, pc, P, wp, wc, wide, hp, hc, high, lp, lc, S, rfl, hM1, hE1⟩)
  have hEa : Ext w1 (w1.alloc (.cells #[.slice wp wide.length wc, .slice hp high.length hc] 28)) := (Ext.refl _).alloc _
  have hE : Ext w (w1.alloc (.cells #[.slice wp wide.length wc, .slice hp high.length hc] 28)) := (ExtS.back ((Ext.refl w).alloc _) (Nat.le_refl _) hE1).trans hEa
  have hB : Blk (w1.alloc (.cells #[.slice wp wide.length wc, .slice hp high.length hc] 28)) w1.heap.size 28 #[.slice wp wide.length wc, .slice hp high.length hc] := Blk.new' rfl
  have hM := hM1.more hEa
  clear hS0 hE1 hM1 hEa
  generalize w1.alloc (.cells #[.slice wp wide.length wc, .slice hp high.length hc] 28) = W at *
  have ha1 := fun u (hu : Ext W u) => checkPeople_any pp P.length pc P u (hM.per.ext hu).1 hM.sP hM.nP
  have ha2 := fun u (hu : Ext W u) => faultPeople_any pp P.length pc P u (hM.per.ext hu).1 hM.sP hM.nP
  have ha3 := fun u (hu : Ext W u) => checkStage_any wp wc hp hc wide high u (hM.wid.ext hu) (hM.hig.ext hu) hM.sw hM.sh
  have ha4 := fun u (hu : Ext W u) => faultStage_any wp wc hp hc wide high u (hM.wid.ext hu) (hM.hig.ext hu) hM.sw hM.sh
  have ha5 := fun u (hu : Ext W u) => checkStands_any pp pc P wp wc wide hp hc high lp lc S u (hM.more hu)
  generalize peopleF P = a at *
  generalize stageF wide high = b at *
  generalize hsf : standsF P wide high S = sf at *
  replace ha1 := Lib.hid ha1
  replace ha2 := Lib.hid ha2
  replace ha3 := Lib.hid ha3
  replace ha4 := Lib.hid ha4
  replace ha5 := Lib.hid ha5
  replace hsf := Lib.hid hsf
  refine wp_region_facts [] [([], false, false), ([0], false, false), ([], false, false), ([2], false, false), ([0, 1, 2, 3], false, false), ([0, 1, 2, 3, 4], false, false), ([0, 1, 2, 3, 4, 5], false, false), ([0, 1, 2, 3, 4, 5, 6], false, false), ([0, 1, 2, 3, 4, 5], false, false), ([0, 1, 2, 3, 4, 5, 8], false, false), ([0, 1, 2, 3, 4, 5, 6, 7, 8, 9], false, false), ([0, 1, 2, 3, 4, 5, 6, 7, 8, 9, 10], false, false), ([0, 1, 2, 3, 4, 5, 6, 7, 8, 9, 10, 11], false, false), ([0, 1, 2, 3, 4, 5, 6, 7, 8, 9, 10, 11, 12], false, false), ([0, 1, 2, 3, 4, 5, 6, 7, 8, 9, 10, 11, 12], false, false), ([0, 1, 2, 3, 4, 5, 6, 7, 8, 9, 10, 11, 12], false, false), ([0, 1, 2, 3, 4, 5, 6, 7, 8, 9, 10, 11, 12, 13, 14, 15], false, false), ([0, 1, 2, 3, 4, 5, 6, 7, 8, 9, 10, 11, 12], false, false), ([0, 1, 2, 3, 4, 5, 6, 7, 8, 9, 10, 11, 12, 13, 14, 15, 16, 17], false, false), ([0, 1, 2, 3, 4, 5, 6, 7, 8, 9, 10, 11, 12, 13, 14, 15, 16, 17, 18], false, false)] (Ext) Ext (fun _ => True) (by kernel_rfl) (by kernel_rfl) Ext.refl (fun _ _ _ => Ext.trans) (fun _ _ h => h) (fun _ _ h => h.size) (fun _ _ h _ => h) trivial ?_
  dsimp only [List.length_cons, List.length_nil, List.drop_succ_cons, List.drop_zero, List.drop_nil]
  refine fac_quiet 0 rfl rfl rfl (fun _ _ h _ => h) rfl rfl ?_
  apply Exists.intro
  refine ⟨fun sv w' hw' hfa => ?_, ?_⟩
  · refine ⟨rfl, ?_⟩
    simp only [putsL]
    change quietTo _ _ _ _ (Sem.run _ (execOp (Act.eval _) _) _)
    try simp only [Act.put, List.setIfInBounds_toArray, List.set_cons_succ, List.set_cons_zero]
    simp [go_sem, quietTo, Ext.refl]
    all_goals first
      | rfl
  refine fac_quiet 1 rfl rfl rfl (fun _ _ h _ => h) rfl rfl ?_
  apply Exists.intro
  refine ⟨fun sv w' hw' hfa => ?_, ?_⟩
  · obtain ⟨f0, -⟩ := hfa
    replace f0 : sv 0 = _ := f0
    try dsimp only at f0
    have hk9 := (Ext.refl W).drew.trans hw'; obtain ⟨y1, -⟩ := (hB.ext hk9).walk
    refine ⟨rfl, ?_⟩
    simp only [putsL]
    change quietTo _ _ _ _ (Sem.run _ (execOp (Act.eval (Act.put _ (some 26) (sv 0))) _) _)
    try simp only [Act.put, List.setIfInBounds_toArray, List.set_cons_succ, List.set_cons_zero]
    simp [go_sem, quietTo, Ext.refl, ↓IntWalk.iteOmega, f0]
    all_goals try simp (disch := omega) only [IntWalk.i64_in]
    all_goals first
      | rfl
      | (exact ha1.out _ hk9)
  refine fac_quiet 2 rfl rfl rfl (fun _ _ h _ => h) rfl rfl ?_
  apply Exists.intro
  refine ⟨fun sv w' hw' hfa => ?_, ?_⟩
  · refine ⟨rfl, ?_⟩
    simp only [putsL]
    change quietTo _ _ _ _ (Sem.run _ (execOp (Act.eval _) _) _)
    try simp only [Act.put, List.setIfInBounds_toArray, List.set_cons_succ, List.set_cons_zero]
    simp [go_sem, quietTo, Ext.refl]
    all_goals first
      | rfl
  refine fac_quiet 3 rfl rfl rfl (fun _ _ h _ => h) rfl rfl ?_
  apply Exists.intro
  refine ⟨fun sv w' hw' hfa => ?_, ?_⟩
  · obtain ⟨f2, -⟩ := hfa
    replace f2 : sv 2 = _ := f2
    try dsimp only at f2
    have hk9 := (Ext.refl W).drew.trans hw'; obtain ⟨y1, -⟩ := (hB.ext hk9).walk
    refine ⟨rfl, ?_⟩
    simp only [putsL]
    change quietTo _ _ _ _ (Sem.run _ (execOp (Act.eval (Act.put _ (some 28) (sv 2))) _) _)
    try simp only [Act.put, List.setIfInBounds_toArray, List.set_cons_succ, List.set_cons_zero]
    simp [go_sem, quietTo, Ext.refl, ↓IntWalk.iteOmega, f2]
    all_goals try simp (disch := omega) only [IntWalk.i64_in]
    all_goals first
      | rfl
      | (exact ha2.out _ hk9)
  refine fac_quiet 4 rfl rfl rfl (fun _ _ h _ => h) rfl rfl ?_
  apply Exists.intro
  refine ⟨fun sv w' hw' hfa => ?_, ?_⟩
  · obtain ⟨_, f1, _, f3, -⟩ := hfa
    replace f1 : sv 1 = _ := f1
    try dsimp only at f1
    replace f3 : sv 3 = _ := f3
    try dsimp only at f3
    refine ⟨rfl, ?_⟩
    simp only [putsL]
    change quietTo _ _ _ _ (Sem.run _ (execOp (Act.eval (Act.put (Act.put (Act.put (Act.put _ (some 29) (sv 3)) (some 28) (sv 2)) (some 27) (sv 1)) (some 26) (sv 0))) _) _)
    try simp only [Act.put, List.setIfInBounds_toArray, List.set_cons_succ, List.set_cons_zero]
    simp [go_sem, quietTo, Ext.refl, ↓IntWalk.iteOmega, f1, f3]
    all_goals try simp (disch := omega) only [IntWalk.i64_in]
    all_goals first
      | rfl
  refine fac_quiet 5 rfl rfl rfl (fun _ _ h _ => h) rfl rfl ?_
  apply Exists.intro
  refine ⟨fun sv w' hw' hfa => ?_, ?_⟩
  · obtain ⟨_, _, _, _, f4, -⟩ := hfa
    replace f4 : sv 4 = _ := f4
    try dsimp only at f4
    refine ⟨rfl, ?_⟩
    simp only [putsL]
    change quietTo _ _ _ _ (Sem.run _ (execOp (Act.eval (Act.put (Act.put (Act.put (Act.put (Act.put _ (some 30) (sv 4)) (some 29) (sv 3)) (some 28) (sv 2)) (some 27) (sv 1)) (some 26) (sv 0))) _) _)
    try simp only [Act.put, List.setIfInBounds_toArray, List.set_cons_succ, List.set_cons_zero]
    simp [go_sem, quietTo, Ext.refl, f4]
    all_goals first
      | rfl
  refine fac_quiet 6 rfl rfl rfl (fun _ _ h _ => h) rfl rfl ?_
  apply Exists.intro
  refine ⟨fun sv w' hw' hfa => ?_, ?_⟩
  · obtain ⟨_, _, _, _, _, f5, -⟩ := hfa
    replace f5 : sv 5 = _ := f5
    try dsimp only at f5
    have hk9 := (Ext.refl W).drew.trans hw'; obtain ⟨y1, -⟩ := (hB.ext hk9).walk
    refine ⟨by simp [Region.wanted, yielded, putsL, Act.put, f5], ?_⟩
    simp only [putsL]
    change quietTo _ _ _ _ (Sem.run _ (execOp (Act.eval (Act.put (Act.put (Act.put (Act.put (Act.put (Act.put _ (some 31) (sv 5)) (some 30) (sv 4)) (some 29) (sv 3)) (some 28) (sv 2)) (some 27) (sv 1)) (some 26) (sv 0))) _) _)
    try simp only [Act.put, List.setIfInBounds_toArray, List.set_cons_succ, List.set_cons_zero]
    simp [go_sem, quietTo, Ext.refl, ↓IntWalk.iteOmega, f5, y1]
    all_goals try simp (disch := omega) only [IntWalk.i64_in]
    all_goals first
      | rfl
  refine fac_quiet 7 rfl rfl rfl (fun _ _ h _ => h) rfl rfl ?_
  apply Exists.intro
  refine ⟨fun sv w' hw' hfa => ?_, ?_⟩
  · obtain ⟨f0, f1, f2, f3, f4, f5, f6, -⟩ := hfa
    replace f0 : sv 0 = _ := f0
    try dsimp only at f0
    replace f1 : sv 1 = _ := f1
    try dsimp only at f1
    replace f2 : sv 2 = _ := f2
    try dsimp only at f2
    replace f3 : sv 3 = _ := f3
    try dsimp only at f3
    replace f4 : sv 4 = _ := f4
    try dsimp only at f4
    replace f5 : sv 5 = _ := f5
    try dsimp only at f5
    replace f6 : sv 6 = _ := f6
    try dsimp only at f6
    have hk9 := (Ext.refl W).drew.trans hw'; obtain ⟨y1, -⟩ := (hB.ext hk9).walk
    refine ⟨by simp [Region.wanted, yielded, putsL, Act.put, f5, f6], ?_⟩
    simp only [putsL]
    change quietTo _ _ _ _ (Sem.run _ (execOp (Act.eval (Act.put (Act.put (Act.put (Act.put (Act.put (Act.put (Act.put _ (some 32) (sv 6)) (some 31) (sv 5)) (some 30) (sv 4)) (some 29) (sv 3)) (some 28) (sv 2)) (some 27) (sv 1)) (some 26) (sv 0))) _) _)
    try simp only [Act.put, List.setIfInBounds_toArray, List.set_cons_succ, List.set_cons_zero]
    simp [go_sem, quietTo, Ext.refl, ↓IntWalk.iteOmega, f5, f6]
    all_goals try simp (disch := omega) only [IntWalk.i64_in]
    all_goals first
      | rfl
      | (exact ha3.out _ hk9)
  refine fac_quiet 8 rfl rfl rfl (fun _ _ h _ => h) rfl rfl ?_
  apply Exists.intro
  refine ⟨fun sv w' hw' hfa => ?_, ?_⟩
  · obtain ⟨_, _, _, _, _, f5, -⟩ := hfa
    replace f5 : sv 5 = _ := f5
    try dsimp only at f5
    have hk9 := (Ext.refl W).drew.trans hw'; obtain ⟨y1, -⟩ := (hB.ext hk9).walk
    refine ⟨by simp [Region.wanted, yielded, putsL, Act.put, f5], ?_⟩
    simp only [putsL]
    change quietTo _ _ _ _ (Sem.run _ (execOp (Act.eval (Act.put (Act.put (Act.put (Act.put (Act.put (Act.put _ (some 31) (sv 5)) (some 30) (sv 4)) (some 29) (sv 3)) (some 28) (sv 2)) (some 27) (sv 1)) (some 26) (sv 0))) _) _)
    try simp only [Act.put, List.setIfInBounds_toArray, List.set_cons_succ, List.set_cons_zero]
    simp [go_sem, quietTo, Ext.refl, ↓IntWalk.iteOmega, f5, y1]
    all_goals try simp (disch := omega) only [IntWalk.i64_in]
    all_goals first
      | rfl
  refine fac_quiet 9 rfl rfl rfl (fun _ _ h _ => h) rfl rfl ?_
  apply Exists.intro
  refine ⟨fun sv w' hw' hfa => ?_, ?_⟩
  · obtain ⟨f0, f1, f2, f3, f4, f5, f8, -⟩ := hfa
    replace f0 : sv 0 = _ := f0
    try dsimp only at f0
    replace f1 : sv 1 = _ := f1
    try dsimp only at f1
    replace f2 : sv 2 = _ := f2
    try dsimp only at f2
    replace f3 : sv 3 = _ := f3
    try dsimp only at f3
    replace f4 : sv 4 = _ := f4
    try dsimp only at f4
    replace f5 : sv 5 = _ := f5
    try dsimp only at f5
    replace f8 : sv 8 = _ := f8
    try dsimp only at f8
    have hk9 := (Ext.refl W).drew.trans hw'; obtain ⟨y1, -⟩ := (hB.ext hk9).walk
    refine ⟨by simp [Region.wanted, yielded, putsL, Act.put, f5, f8], ?_⟩
    simp only [putsL]
    change quietTo _ _ _ _ (Sem.run _ (execOp (Act.eval (Act.put (Act.put (Act.put (Act.put (Act.put (Act.put (Act.put _ (some 34) (sv 8)) (some 31) (sv 5)) (some 30) (sv 4)) (some 29) (sv 3)) (some 28) (sv 2)) (some 27) (sv 1)) (some 26) (sv 0))) _) _)
    try simp only [Act.put, List.setIfInBounds_toArray, List.set_cons_succ, List.set_cons_zero]
    simp [go_sem, quietTo, Ext.refl, ↓IntWalk.iteOmega, f5, f8]
    all_goals try simp (disch := omega) only [IntWalk.i64_in]
    all_goals first
      | rfl
      | (exact ha4.out _ hk9)
  refine fac_quiet 10 rfl rfl rfl (fun _ _ h _ => h) rfl rfl ?_
  apply Exists.intro
  refine ⟨fun sv w' hw' hfa => ?_, ?_⟩
  · obtain ⟨_, _, _, _, _, f5, _, f7, _, f9, -⟩ := hfa
    replace f5 : sv 5 = _ := f5
    try dsimp only at f5
    replace f7 : sv 7 = _ := f7
    try dsimp only at f7
    replace f9 : sv 9 = _ := f9
    try dsimp only at f9
    refine ⟨by simp [Region.wanted, yielded, putsL, Act.put, f5, f7, f9], ?_⟩
    simp only [putsL]
    change quietTo _ _ _ _ (Sem.run _ (execOp (Act.eval (Act.put (Act.put (Act.put (Act.put (Act.put (Act.put (Act.put (Act.put (Act.put (Act.put _ (some 35) (sv 9)) (some 34) (sv 8)) (some 33) (sv 7)) (some 32) (sv 6)) (some 31) (sv 5)) (some 30) (sv 4)) (some 29) (sv 3)) (some 28) (sv 2)) (some 27) (sv 1)) (some 26) (sv 0))) _) _)
    try simp only [Act.put, List.setIfInBounds_toArray, List.set_cons_succ, List.set_cons_zero]
    simp [go_sem, quietTo, Ext.refl, ↓IntWalk.iteOmega, f5, f7, f9]
    all_goals try simp (disch := omega) only [IntWalk.i64_in]
    all_goals first
      | rfl
  refine fac_quiet 11 rfl rfl rfl (fun _ _ h _ => h) rfl rfl ?_
  apply Exists.intro
  refine ⟨fun sv w' hw' hfa => ?_, ?_⟩
  · obtain ⟨_, _, _, _, _, f5, _, _, _, _, f10, -⟩ := hfa
    replace f5 : sv 5 = _ := f5
    try dsimp only at f5
    replace f10 : sv 10 = _ := f10
    try dsimp only at f10
    refine ⟨rfl, ?_⟩
    simp only [putsL]
    change quietTo _ _ _ _ (Sem.run _ (execOp (Act.eval (Act.put (Act.put (Act.put (Act.put (Act.put (Act.put (Act.put (Act.put (Act.put (Act.put (Act.put _ (some 36) (sv 10)) (some 35) (sv 9)) (some 34) (sv 8)) (some 33) (sv 7)) (some 32) (sv 6)) (some 31) (sv 5)) (some 30) (sv 4)) (some 29) (sv 3)) (some 28) (sv 2)) (some 27) (sv 1)) (some 26) (sv 0))) _) _)
    try simp only [Act.put, List.setIfInBounds_toArray, List.set_cons_succ, List.set_cons_zero]
    simp [go_sem, quietTo, Ext.refl, ↓IntWalk.iteOmega, f5, f10]
    all_goals try simp (disch := omega) only [IntWalk.i64_in]
    all_goals first
      | rfl
  refine fac_quiet 12 rfl rfl rfl (fun _ _ h _ => h) rfl rfl ?_
  apply Exists.intro
  refine ⟨fun sv w' hw' hfa => ?_, ?_⟩
  · obtain ⟨_, _, _, _, _, _, _, _, _, _, _, f11, -⟩ := hfa
    replace f11 : sv 11 = _ := f11
    try dsimp only at f11
    refine ⟨rfl, ?_⟩
    simp only [putsL]
    change quietTo _ _ _ _ (Sem.run _ (execOp (Act.eval (Act.put (Act.put (Act.put (Act.put (Act.put (Act.put (Act.put (Act.put (Act.put (Act.put (Act.put (Act.put _ (some 37) (sv 11)) (some 36) (sv 10)) (some 35) (sv 9)) (some 34) (sv 8)) (some 33) (sv 7)) (some 32) (sv 6)) (some 31) (sv 5)) (some 30) (sv 4)) (some 29) (sv 3)) (some 28) (sv 2)) (some 27) (sv 1)) (some 26) (sv 0))) _) _)
    try simp only [Act.put, List.setIfInBounds_toArray, List.set_cons_succ, List.set_cons_zero]
    simp [go_sem, quietTo, Ext.refl, f11]
    all_goals first
      | rfl
  refine fac_quiet 13 rfl rfl rfl (fun _ _ h _ => h) rfl rfl ?_
  apply Exists.intro
  refine ⟨fun sv w' hw' hfa => ?_, ?_⟩
  · obtain ⟨_, _, _, _, _, _, _, _, _, _, _, _, f12, -⟩ := hfa
    replace f12 : sv 12 = _ := f12
    try dsimp only at f12
    refine ⟨by simp [Region.wanted, yielded, putsL, Act.put, f12], ?_⟩
    simp only [putsL]
    change quietTo _ _ _ _ (Sem.run _ (execOp (Act.eval (Act.put (Act.put (Act.put (Act.put (Act.put (Act.put (Act.put (Act.put (Act.put (Act.put (Act.put (Act.put (Act.put _ (some 38) (sv 12)) (some 37) (sv 11)) (some 36) (sv 10)) (some 35) (sv 9)) (some 34) (sv 8)) (some 33) (sv 7)) (some 32) (sv 6)) (some 31) (sv 5)) (some 30) (sv 4)) (some 29) (sv 3)) (some 28) (sv 2)) (some 27) (sv 1)) (some 26) (sv 0))) _) _)
    try simp only [Act.put, List.setIfInBounds_toArray, List.set_cons_succ, List.set_cons_zero]
    simp [go_sem, quietTo, Ext.refl, f12]
    all_goals first
      | rfl
  refine fac_quiet 14 rfl rfl rfl (fun _ _ h _ => h) rfl rfl ?_
  apply Exists.intro
  refine ⟨fun sv w' hw' hfa => ?_, ?_⟩
  · obtain ⟨_, _, _, _, _, _, _, _, _, _, _, _, f12, -⟩ := hfa
    replace f12 : sv 12 = _ := f12
    try dsimp only at f12
    have hk9 := (Ext.refl W).drew.trans hw'; obtain ⟨y1, -⟩ := (hB.ext hk9).walk
    refine ⟨by simp [Region.wanted, yielded, putsL, Act.put, f12], ?_⟩
    simp only [putsL]
    change quietTo _ _ _ _ (Sem.run _ (execOp (Act.eval (Act.put (Act.put (Act.put (Act.put (Act.put (Act.put (Act.put (Act.put (Act.put (Act.put (Act.put (Act.put (Act.put _ (some 38) (sv 12)) (some 37) (sv 11)) (some 36) (sv 10)) (some 35) (sv 9)) (some 34) (sv 8)) (some 33) (sv 7)) (some 32) (sv 6)) (some 31) (sv 5)) (some 30) (sv 4)) (some 29) (sv 3)) (some 28) (sv 2)) (some 27) (sv 1)) (some 26) (sv 0))) _) _)
    try simp only [Act.put, List.setIfInBounds_toArray, List.set_cons_succ, List.set_cons_zero]
    simp [go_sem, quietTo, Ext.refl, ↓IntWalk.iteOmega, f12, y1]
    all_goals try simp (disch := omega) only [IntWalk.i64_in]
    all_goals first
      | rfl
  refine fac_quiet 15 rfl rfl rfl (fun _ _ h _ => h) rfl rfl ?_
  apply Exists.intro
  refine ⟨fun sv w' hw' hfa => ?_, ?_⟩
  · obtain ⟨_, _, _, _, _, _, _, _, _, _, _, _, f12, -⟩ := hfa
    replace f12 : sv 12 = _ := f12
    try dsimp only at f12
    refine ⟨by simp [Region.wanted, yielded, putsL, Act.put, f12], ?_⟩
    simp only [putsL]
    change quietTo _ _ _ _ (Sem.run _ (execOp (Act.eval (Act.put (Act.put (Act.put (Act.put (Act.put (Act.put (Act.put (Act.put (Act.put (Act.put (Act.put (Act.put (Act.put _ (some 38) (sv 12)) (some 37) (sv 11)) (some 36) (sv 10)) (some 35) (sv 9)) (some 34) (sv 8)) (some 33) (sv 7)) (some 32) (sv 6)) (some 31) (sv 5)) (some 30) (sv 4)) (some 29) (sv 3)) (some 28) (sv 2)) (some 27) (sv 1)) (some 26) (sv 0))) _) _)
    try simp only [Act.put, List.setIfInBounds_toArray, List.set_cons_succ, List.set_cons_zero]
    simp [go_sem, quietTo, Ext.refl, f12]
    all_goals first
      | rfl
  refine fac_quiet 16 rfl rfl rfl (fun _ _ h _ => h) rfl rfl ?_
  apply Exists.intro
  refine ⟨fun sv w' hw' hfa => ?_, ?_⟩
  · obtain ⟨f0, f1, f2, f3, f4, f5, f6, f7, f8, f9, f10, f11, f12, f13, f14, f15, -⟩ := hfa
    replace f0 : sv 0 = _ := f0
    try dsimp only at f0
    replace f1 : sv 1 = _ := f1
    try dsimp only at f1
    replace f2 : sv 2 = _ := f2
    try dsimp only at f2
    replace f3 : sv 3 = _ := f3
    try dsimp only at f3
    replace f4 : sv 4 = _ := f4
    try dsimp only at f4
    replace f5 : sv 5 = _ := f5
    try dsimp only at f5
    replace f6 : sv 6 = _ := f6
    try dsimp only at f6
    replace f7 : sv 7 = _ := f7
    try dsimp only at f7
    replace f8 : sv 8 = _ := f8
    try dsimp only at f8
    replace f9 : sv 9 = _ := f9
    try dsimp only at f9
    replace f10 : sv 10 = _ := f10
    try dsimp only at f10
    replace f11 : sv 11 = _ := f11
    try dsimp only at f11
    replace f12 : sv 12 = _ := f12
    try dsimp only at f12
    replace f13 : sv 13 = _ := f13
    try dsimp only at f13
    replace f14 : sv 14 = _ := f14
    try dsimp only at f14
    replace f15 : sv 15 = _ := f15
    try dsimp only at f15
    have hk9 := (Ext.refl W).drew.trans hw'; obtain ⟨y1, -⟩ := (hB.ext hk9).walk
    refine ⟨by simp [Region.wanted, yielded, putsL, Act.put, f12, f13, f14, f15], ?_⟩
    simp only [putsL]
    change quietTo _ _ _ _ (Sem.run _ (execOp (Act.eval (Act.put (Act.put (Act.put (Act.put (Act.put (Act.put (Act.put (Act.put (Act.put (Act.put (Act.put (Act.put (Act.put (Act.put (Act.put (Act.put _ (some 41) (sv 15)) (some 40) (sv 14)) (some 39) (sv 13)) (some 38) (sv 12)) (some 37) (sv 11)) (some 36) (sv 10)) (some 35) (sv 9)) (some 34) (sv 8)) (some 33) (sv 7)) (some 32) (sv 6)) (some 31) (sv 5)) (some 30) (sv 4)) (some 29) (sv 3)) (some 28) (sv 2)) (some 27) (sv 1)) (some 26) (sv 0))) _) _)
    try simp only [Act.put, List.setIfInBounds_toArray, List.set_cons_succ, List.set_cons_zero]
    simp [go_sem, quietTo, Ext.refl, ↓IntWalk.iteOmega, f12, f13, f14, f15]
    all_goals try simp (disch := omega) only [IntWalk.i64_in]
    all_goals first
      | rfl
      | (exact ha5.out _ hk9)
  refine fac_quiet 17 rfl rfl rfl (fun _ _ h _ => h) rfl rfl ?_
  apply Exists.intro
  refine ⟨fun sv w' hw' hfa => ?_, ?_⟩
  · obtain ⟨_, _, _, _, _, _, _, _, _, _, _, _, f12, -⟩ := hfa
    replace f12 : sv 12 = _ := f12
    try dsimp only at f12
    refine ⟨by simp [Region.wanted, yielded, putsL, Act.put, f12], ?_⟩
    simp only [putsL]
    change quietTo _ _ _ _ (Sem.run _ (execOp (Act.eval (Act.put (Act.put (Act.put (Act.put (Act.put (Act.put (Act.put (Act.put (Act.put (Act.put (Act.put (Act.put (Act.put _ (some 38) (sv 12)) (some 37) (sv 11)) (some 36) (sv 10)) (some 35) (sv 9)) (some 34) (sv 8)) (some 33) (sv 7)) (some 32) (sv 6)) (some 31) (sv 5)) (some 30) (sv 4)) (some 29) (sv 3)) (some 28) (sv 2)) (some 27) (sv 1)) (some 26) (sv 0))) _) _)
    try simp only [Act.put, List.setIfInBounds_toArray, List.set_cons_succ, List.set_cons_zero]
    simp [go_sem, quietTo, Ext.refl, f12]
    all_goals first
      | rfl
  refine fac_quiet 18 rfl rfl rfl (fun _ _ h _ => h) rfl rfl ?_
  apply Exists.intro
  refine ⟨fun sv w' hw' hfa => ?_, ?_⟩
  · obtain ⟨_, _, _, _, _, _, _, _, _, _, _, _, f12, _, _, _, f16, f17, -⟩ := hfa
    replace f12 : sv 12 = _ := f12
    try dsimp only at f12
    replace f16 : sv 16 = _ := f16
    try dsimp only at f16
    replace f17 : sv 17 = _ := f17
    try dsimp only at f17
    refine ⟨by simp [Region.wanted, yielded, putsL, Act.put, f12, f16, f17], ?_⟩
    simp only [putsL]
    change quietTo _ _ _ _ (Sem.run _ (execOp (Act.eval (Act.put (Act.put (Act.put (Act.put (Act.put (Act.put (Act.put (Act.put (Act.put (Act.put (Act.put (Act.put (Act.put (Act.put (Act.put (Act.put (Act.put (Act.put _ (some 43) (sv 17)) (some 42) (sv 16)) (some 41) (sv 15)) (some 40) (sv 14)) (some 39) (sv 13)) (some 38) (sv 12)) (some 37) (sv 11)) (some 36) (sv 10)) (some 35) (sv 9)) (some 34) (sv 8)) (some 33) (sv 7)) (some 32) (sv 6)) (some 31) (sv 5)) (some 30) (sv 4)) (some 29) (sv 3)) (some 28) (sv 2)) (some 27) (sv 1)) (some 26) (sv 0))) _) _)
    try simp only [Act.put, List.setIfInBounds_toArray, List.set_cons_succ, List.set_cons_zero]
    simp [go_sem, quietTo, Ext.refl, ↓IntWalk.iteOmega, f12, f16, f17]
    all_goals try simp (disch := omega) only [IntWalk.i64_in]
    all_goals first
      | rfl
  refine fac_quiet 19 rfl rfl rfl (fun _ _ h _ => h) rfl rfl ?_
  apply Exists.intro
  refine ⟨fun sv w' hw' hfa => ?_, ?_⟩
  · obtain ⟨_, _, _, _, _, _, _, _, _, _, _, _, f12, _, _, _, _, _, f18, -⟩ := hfa
    replace f12 : sv 12 = _ := f12
    try dsimp only at f12
    replace f18 : sv 18 = _ := f18
    try dsimp only at f18
    refine ⟨rfl, ?_⟩
    simp only [putsL]
    change quietTo _ _ _ _ (Sem.run _ (execOp (Act.eval (Act.put (Act.put (Act.put (Act.put (Act.put (Act.put (Act.put (Act.put (Act.put (Act.put (Act.put (Act.put (Act.put (Act.put (Act.put (Act.put (Act.put (Act.put (Act.put _ (some 44) (sv 18)) (some 43) (sv 17)) (some 42) (sv 16)) (some 41) (sv 15)) (some 40) (sv 14)) (some 39) (sv 13)) (some 38) (sv 12)) (some 37) (sv 11)) (some 36) (sv 10)) (some 35) (sv 9)) (some 34) (sv 8)) (some 33) (sv 7)) (some 32) (sv 6)) (some 31) (sv 5)) (some 30) (sv 4)) (some 29) (sv 3)) (some 28) (sv 2)) (some 27) (sv 1)) (some 26) (sv 0))) _) _)
    try simp only [Act.put, List.setIfInBounds_toArray, List.set_cons_succ, List.set_cons_zero]
    simp [go_sem, quietTo, Ext.refl, ↓IntWalk.iteOmega, f12, f18]
    all_goals try simp (disch := omega) only [IntWalk.i64_in]
    all_goals first
      | rfl
  refine fac_nil fun xq wrq herq hfrq hcrq holdq hapq => ?_
  obtain ⟨f0, f1, f2, f3, f4, f5, f6, f7, f8, f9, f10, f11, f12, f13, f14, f15, f16, f17, f18, f19, -⟩ := hfrq
  replace f0 : xq 0 = _ := f0
  try dsimp only at f0
  replace f1 : xq 1 = _ := f1
  try dsimp only at f1
  replace f2 : xq 2 = _ := f2
  try dsimp only at f2
  replace f3 : xq 3 = _ := f3
  try dsimp only at f3
  replace f4 : xq 4 = _ := f4
  try dsimp only at f4
  replace f5 : xq 5 = _ := f5
  try dsimp only at f5
  replace f6 : xq 6 = _ := f6
  try dsimp only at f6
  replace f7 : xq 7 = _ := f7
  try dsimp only at f7
  replace f8 : xq 8 = _ := f8
  try dsimp only at f8
  replace f9 : xq 9 = _ := f9
  try dsimp only at f9
  replace f10 : xq 10 = _ := f10
  try dsimp only at f10
  replace f11 : xq 11 = _ := f11
  try dsimp only at f11
  replace f12 : xq 12 = _ := f12
  try dsimp only at f12
  replace f13 : xq 13 = _ := f13
  try dsimp only at f13
  replace f14 : xq 14 = _ := f14
  try dsimp only at f14
  replace f15 : xq 15 = _ := f15
  try dsimp only at f15
  replace f16 : xq 16 = _ := f16
  try dsimp only at f16
  replace f17 : xq 17 = _ := f17
  try dsimp only at f17
  replace f18 : xq 18 = _ := f18
  try dsimp only at f18
  replace f19 : xq 19 = _ := f19
  try dsimp only at f19
  change wpList _ _ _ _ (Act.put (Act.put (Act.put (Act.put (Act.put (Act.put (Act.put (Act.put (Act.put (Act.put (Act.put (Act.put (Act.put (Act.put (Act.put (Act.put (Act.put (Act.put (Act.put (Act.put _ (some 26) (xq 0)) (some 27) (xq 1)) (some 28) (xq 2)) (some 29) (xq 3)) (some 30) (xq 4)) (some 31) (xq 5)) (some 32) (xq 6)) (some 33) (xq 7)) (some 34) (xq 8)) (some 35) (xq 9)) (some 36) (xq 10)) (some 37) (xq 11)) (some 38) (xq 12)) (some 39) (xq 13)) (some 40) (xq 14)) (some 41) (xq 15)) (some 42) (xq 16)) (some 43) (xq 17)) (some 44) (xq 18)) (some 45) (xq 19)) _
  simp only [putsL, Nat.reduceAdd, List.drop_succ_cons, List.drop_zero, List.drop_nil, Act.put, List.setIfInBounds_toArray, List.set_cons_succ, List.set_cons_zero]
  try simp only [f0, f1, f2, f3, f4, f5, f6, f7, f8, f9, f10, f11, f12, f13, f14, f15, f16, f17, f18, f19]
  clear f0 f1 f2 f3 f4 f5 f6 f7 f8 f9 f10 f11 f12 f13 f14 f15 f16 f17 f18 f19
  clear holdq hapq
  have hkq := (Ext.refl W).drew.trans herq
  have hBq := hB.ext hkq
  have hMq := hM.more hkq
  have hEq := hE.trans hkq
  obtain ⟨b0, -⟩ := hBq.walk
  have bl0 := hBq.lt
  clear herq hkq hB hM hE ha1 ha2 ha3 ha4 ha5
  by_cases hs0 : sf = 0
  rotate_left
  · have hh1 := fun u (hu : Ext wrq u) => hides_bad (hMq.more hu) hsf.out hs0
    have hh2 := fun u (hu : Ext wrq u) => seen_bad (hMq.more hu) hsf.out hs0
    have hh3 := fun u (hu : Ext wrq u) => lift_bad (hMq.more hu) hsf.out hs0
    replace hh1 := Lib.hid hh1
    replace hh2 := Lib.hid hh2
    replace hh3 := Lib.hid hh3
    clear hMq
    go_wp2_with (first
      | (go_at_call 11; (with_reducible refine Calls.mono (hh1.out _ (Ext.refl _)) ?_); rintro e w3 ⟨rfl, hb3⟩; clear b0 bl0; obtain ⟨b3, -⟩ := (hBq.ext hb3).walk; have bl3 := (hBq.ext hb3).lt)
      | (go_at_call 12; (with_reducible refine Calls.mono (hh2.out _ hb3) ?_); rintro e w4 ⟨rfl, hb4⟩; clear b3 bl3; have E4 := hb3.trans hb4; have E5 := E4.alloc (.cells #[.int .i64 0, .int .i64 0] 40); have hQ5 : Blk (w4.alloc (.cells #[.int .i64 0, .int .i64 0] 40)) w4.heap.size 40 #[.int .i64 0, .int .i64 0] := Blk.new' rfl; obtain ⟨b4, -⟩ := (hBq.ext E4).walk; have bl4 := (hBq.ext E4).lt)
      | (go_at_call 13; (with_reducible refine Calls.mono (hh3.out _ E5) ?_); rintro e w6 ⟨rfl, hb6⟩; clear b4 bl4; obtain ⟨q6, -⟩ := (hQ5.ext hb6).walk; have ql6 := (hQ5.ext hb6).lt)
      | (go_at_call 14; (with_reducible refine Calls.mono (stood_any _) ?_); rintro e w7 ⟨rfl, hb7⟩))
    go_ret
    exact ⟨rfl, hEq.trans ((E5.trans hb6).trans hb7)⟩
  subst hs0
  have hok := (standsF_ok hsf.out).1
  have hwn := (standsF_ok hsf.out).2.1
  have hlen := hok.len
  have hbnd := hidTo_len P wide high S S.length (Nat.le_refl _)
  have hbnd2 : S.length * S.length ≤ 200 * 200 := Nat.mul_le_mul hlen hlen
  rw [hidTo_all] at hbnd
  have hh1 := fun u (hu : Ext wrq u) => hides_good (hMq.more hu) hsf.out
  have hh2 := fun u (hu : Ext wrq u) => seen_good (hMq.more hu) hsf.out
  have hh3 := fun u (hu : Ext wrq u) => lift_good (hMq.more hu) hsf.out
  have hh4 := fun u (hu : Ext wrq u) => seenOf_any pp pc P wp wc wide hp hc high lp lc S u (hMq.more hu) hok
  have hh5 := fun u (hu : Ext wrq u) => rhidden_any pp pc P wp wc wide hp hc high lp lc S u (hMq.more hu) hok
  have hh8 := fun u (hu : Ext wrq u) => rlift_any pp pc P wp wc wide hp hc high lp lc S u (hMq.more hu) hok hwn
  have hw10 := hok.wo.1
  have hll : (liftL P wide high S wide.length).length = wide.length := liftL_len _
  have hsv : ∃ u1 u2 : Int, seenV P wide high S = #[.int .i64 u1, .int .i64 u2] := by
    unfold seenV fracC
    split <;> exact ⟨_, _, rfl⟩
  obtain ⟨u1, u2, hsv⟩ := hsv
  rw [hsv] at hh2 hh4
  generalize liftL P wide high S wide.length = LL at *
  generalize hiddenL P wide high S = HL at *
  replace hh1 := Lib.hid hh1
  replace hh3 := Lib.hid hh3
  replace hh5 := Lib.hid hh5
  replace hh8 := Lib.hid hh8
  clear hMq hok hsv
  have hsl : ∀ (w : World) (g : Nat), Blk w g 3 (rowI LL) → Slc 1 intC w (some ⟨g, 0, none⟩) wide.length wide.length LL := fun w g hb => by
    have := slc_rowI hb (by omega)
    rw [hll] at this
    exact this
  replace hsl := Lib.hid hsl
  cases h0 : decide (S.length = 0)
  all_goals
    rw [h0] at hh4
    first
      | rw [if_neg (of_decide_eq_false h0)] at hh2
      | rw [if_pos (of_decide_eq_true h0)] at hh2
    replace hh2 := Lib.hid hh2
    replace hh4 := Lib.hid hh4
    replace h0 := Lib.hid h0
    go_wp2_with (first
      | (go_at_call 11; (with_reducible refine Calls.mono (hh1.out _ (Ext.refl _)) ?_); rintro e w3 ⟨q3, c3, rfl, hs3, hb3⟩; clear b0 bl0; obtain ⟨b3, -⟩ := (hBq.ext hb3).walk; have bl3 := (hBq.ext hb3).lt)
      | (go_at_call 12; (with_reducible refine Calls.mono (hh2.out _ hb3) ?_); rintro e w4 ⟨rfl, hb4⟩; clear b3 bl3; have E4 := hb3.trans hb4; have E5 := E4.alloc (.cells #[.int .i64 u1, .int .i64 u2] 40); have hs5 := (hs3.ext hb4).ext ((Ext.refl _).alloc (.cells #[.int .i64 u1, .int .i64 u2] 40)); have hQ5 : Blk (w4.alloc (.cells #[.int .i64 u1, .int .i64 u2] 40)) w4.heap.size 40 #[.int .i64 u1, .int .i64 u2] := Blk.new' rfl; obtain ⟨b4, -⟩ := (hBq.ext E4).walk; have bl4 := (hBq.ext E4).lt)
      | (go_at_call 13; (with_reducible refine Calls.mono (hh3.out _ E5) ?_); rintro e w6 ⟨bl, rfl, hL6, hb6⟩; clear b4 bl4; have E6 := E5.trans hb6; have hs6 := hs5.ext hb6; have hQ6 := hQ5.ext hb6; obtain ⟨b6, -⟩ := (hBq.ext E6).walk; have bl6 := (hBq.ext E6).lt)
      | (go_at_call 15; (with_reducible refine Calls.mono (hh4.out _ E6) ?_); rintro e w7 ⟨rfl, hb7⟩; clear b6 bl6; have E7 := E6.trans hb7; have Ea : Ext w7 (w7.alloc (.cells #[.int .i64 u1, .int .i64 u2] 40)) := (Ext.refl _).alloc _; have E8 := E7.trans Ea; have hs8 := (hs6.ext hb7).ext Ea; have hQ8 := (hQ6.ext hb7).ext Ea; have hL8 := (hL6.ext hb7).ext Ea; have hT8 : Blk (w7.alloc (.cells #[.int .i64 u1, .int .i64 u2] 40)) w7.heap.size 40 #[.int .i64 u1, .int .i64 u2] := Blk.new' rfl; obtain ⟨b7, -⟩ := (hBq.ext E7).walk; have bl7 := (hBq.ext E7).lt)
      | (go_at_call 17; (with_reducible refine Calls.mono (hh5.out _ E8) ?_); rintro e w9 ⟨q9, c9, rfl, hs9, hb9⟩; clear b7 bl7; have E9 := E8.trans hb9)
      | (go_at_call 16; (with_reducible refine Calls.mono (eqHid_any q3 q9 _ c3 c9 HL _ (hs8.ext hb9) hs9 (by omega)) ?_); rintro e w10 ⟨rfl, hb10⟩; have E10 := E9.trans hb10; have Ec := hb9.trans hb10; obtain ⟨q10, -⟩ := (hQ8.ext Ec).walk; obtain ⟨t10, -⟩ := (hT8.ext Ec).walk; obtain ⟨b10, -⟩ := (hBq.ext E10).walk; have bl10 := (hBq.ext E10).lt; have ql10 := (hQ8.ext Ec).lt; have tl10 := (hT8.ext Ec).lt)
      | (go_at_call 18; (with_reducible refine Calls.mono (noneFault_any _ _) ?_); rintro e w10' ⟨rfl, rfl⟩)
      | (go_at_call 20; (with_reducible refine Calls.mono (hh8.out _ E10) ?_); rintro e w11 ⟨bm, rfl, hL11, hb11⟩; have E11 := E10.trans hb11)
      | (go_at_call 19; (with_reducible refine Calls.mono (eqInt_any (some ⟨bl, 0, none⟩) (some ⟨bm, 0, none⟩) wide.length wide.length wide.length LL _ (hsl.out _ _ ((hL8.ext Ec).ext hb11)) (hsl.out _ _ hL11) (by omega)) ?_); rintro e w12 ⟨rfl, hb12⟩; have E12 := E11.trans hb12)
      | (go_at_call 14; (with_reducible refine Calls.mono (stood_any _) ?_); rintro e w13 ⟨rfl, hb13⟩))
    go_ret
    exact ⟨rfl, hEq.trans (E12.trans hb13)⟩
end Go.Proofs.YtfmkmnnmckbljaaGreatDoor
