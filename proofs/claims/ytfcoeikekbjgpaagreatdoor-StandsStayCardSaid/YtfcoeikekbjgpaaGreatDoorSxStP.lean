/- How stands are ordered, by both texts. Conditions: none. -/
import Derived.Test.YtfcoeikekbjgpaaGreatDoorSxJ21
import Derived.Test.YtfcoeikekbjgpaaGreatDoorSxJ5
set_option linter.unusedSimpArgs false
set_option linter.unusedVariables false
namespace Go.Proofs.YtfcoeikekbjgpaaGreatDoor
open Go Go.RowKit

theorem outside_is {n lo hi : Int} {v : Bool} (h : outB n lo hi = v) (w : World) :
    Calls Tryz.prog 91 #[.int .i64 n, .int .i64 lo, .int .i64 hi] w fun e w' => e = .returned (.bool v) ∧ Ext w w' :=
  h ▸ (outside_any n lo hi w).mono fun _ _ k => ⟨k.1, k.2 ▸ Ext.refl _⟩
theorem in_is {n lo hi : Int} {v : Bool} (h : inB n lo hi = v) (w : World) :
    Calls Tryz.prog 34 #[.int .i64 n, .int .i64 lo, .int .i64 hi] w fun e w' => e = .returned (.bool v) ∧ Ext w w' :=
  h ▸ (in_any n lo hi w).mono fun _ _ k => ⟨k.1, k.2 ▸ Ext.refl _⟩
set_option maxRecDepth 100000 in
theorem isNaNI_any (x : Int) (w : World) :
    Calls Tryz.prog 115 #[.int .i64 x] w fun e w' => e = .returned (.bool false) ∧ w = w' := by
  go_enter Tryz.func115, Tryz.ntmps115
  go_wp2
  go_ret
  exact ⟨ret_bool (by simp), rfl⟩
set_option maxRecDepth 100000 in
theorem cmpInt_any (x y : Int) (w : World) :
    Calls Tryz.prog 78 #[.int .i64 x, .int .i64 y] w fun e w' => e = .returned (.int .i64 (cmpZ x y)) ∧ Ext w w' := by
  have hc : (x < y ∧ cmpZ x y = -1) ∨ (x = y ∧ cmpZ x y = 0) ∨ (y < x ∧ cmpZ x y = 1) := by unfold cmpZ; split <;> (try split) <;> omega
  rcases hc with ⟨h, hv⟩ | ⟨h, hv⟩ | ⟨h, hv⟩
  all_goals
    rw [hv]
    clear hv
    go_enter Tryz.func78, Tryz.ntmps78
    go_wp2_with (go_at_call 115; (with_reducible refine Calls.mono (isNaNI_any _ _) ?_); rintro e w' ⟨rfl, rfl⟩)
    go_ret
    exact ⟨rfl, Ext.refl _⟩
theorem cmpV_or (a b : StandV) : orF [cmpZ a.row b.row, cmpZ a.place b.place] = cmpV a b := by
  rcases Int.lt_trichotomy a.row b.row with h | h | h
  · simp [orF, cmpZ, cmpV, h]
  · rcases Int.lt_trichotomy a.place b.place with k | k | k
    · simp [orF, cmpZ, cmpV, h, k]
    · simp [orF, cmpZ, cmpV, h, k]
    · have k1 : ¬ a.place < b.place := by omega
      have k2 : ¬ a.place = b.place := by omega
      simp [orF, cmpZ, cmpV, h, k, k1, k2]
  · have h1 : ¬ a.row < b.row := by omega
    have h2 : ¬ a.row = b.row := by omega
    simp [orF, cmpZ, cmpV, h, h1, h2]

set_option maxRecDepth 100000 in
set_option maxHeartbeats 1600000 in
theorem compareSt_any (a b : StandV) (w : World) :
    Calls Tryz.prog 65 #[.agg #[.string a.name, .int .i64 a.row, .int .i64 a.place], .agg #[.string b.name, .int .i64 b.row, .int .i64 b.place]] w fun e w' => e = .returned (.int .i64 (cmpV a b)) ∧ Ext w w' := by
  rw [← cmpV_or]
  have hX : Blk ((w.alloc (.cells #[.string a.name, .int .i64 a.row, .int .i64 a.place] 48)).alloc (.cells #[.string b.name, .int .i64 b.row, .int .i64 b.place] 48)) w.heap.size 48 #[.string a.name, .int .i64 a.row, .int .i64 a.place] := (Blk.new' rfl).alloc _
  have hY : Blk ((w.alloc (.cells #[.string a.name, .int .i64 a.row, .int .i64 a.place] 48)).alloc (.cells #[.string b.name, .int .i64 b.row, .int .i64 b.place] 48)) (w.heap.size + 1) 48 #[.string b.name, .int .i64 b.row, .int .i64 b.place] := Blk.new' (by simp)
  have hE : Ext w ((w.alloc (.cells #[.string a.name, .int .i64 a.row, .int .i64 a.place] 48)).alloc (.cells #[.string b.name, .int .i64 b.row, .int .i64 b.place] 48)) := ((Ext.refl _).alloc _).alloc _
  go_enter Tryz.func65, Tryz.ntmps65
  go_upto_region 1 with fail
  generalize (w.alloc (.cells #[.string a.name, .int .i64 a.row, .int .i64 a.place] 48)).alloc (.cells #[.string b.name, .int .i64 b.row, .int .i64 b.place] 48) = W at *
  refine wp_region_facts [] [([], false, false), ([0], false, false), ([], false, false), ([2], false, false), ([0, 1, 2, 3], false, false), ([], false, false), ([5], false, false), ([], false, false), ([7], false, false), ([5, 6, 7, 8], false, false), ([0, 1, 2, 3, 4, 5, 6, 7, 8, 9], false, true), ([0, 1, 2, 3, 4, 5, 6, 7, 8, 9, 10], false, false)] (Ext) Ext (fun _ => True) (by kernel_rfl) (by kernel_rfl) Ext.refl (fun _ _ _ => Ext.trans) (fun _ _ h => h) (fun _ _ h => h.size) (fun _ _ h _ => h) trivial ?_
  dsimp only [List.length_cons, List.length_nil, List.drop_succ_cons, List.drop_zero, List.drop_nil]
  refine fac_quiet 0 rfl rfl rfl (fun _ _ h _ => h) rfl rfl ?_
  apply Exists.intro
  refine ⟨fun sv w' hw' hfa => ?_, ?_⟩
  · refine ⟨rfl, ?_⟩
    simp only [putsL]
    change quietTo _ _ _ _ (Sem.run _ (execOp (Act.eval _) _) _)
    try simp only [Act.put, List.setIfInBounds_toArray, List.set_cons_succ, List.set_cons_zero]
    simp [go_sem, quietTo, Ext.refl]
    all_goals first
      | rfl
  refine fac_quiet 1 rfl rfl rfl (fun _ _ h _ => h) rfl rfl ?_
  apply Exists.intro
  refine ⟨fun sv w' hw' hfa => ?_, ?_⟩
  · obtain ⟨f0, -⟩ := hfa
    replace f0 : sv 0 = _ := f0
    try dsimp only at f0
    have hk9 := (Ext.refl W).drew.trans hw'; obtain ⟨y1, -⟩ := (hX.ext hk9).walk; obtain ⟨y2, -⟩ := (hY.ext hk9).walk
    refine ⟨rfl, ?_⟩
    simp only [putsL]
    change quietTo _ _ _ _ (Sem.run _ (execOp (Act.eval (Act.put _ (some 5) (sv 0))) _) _)
    try simp only [Act.put, List.setIfInBounds_toArray, List.set_cons_succ, List.set_cons_zero]
    simp [go_sem, quietTo, Ext.refl, ↓IntWalk.iteOmega, f0, y1]
    all_goals try simp (disch := omega) only [IntWalk.i64_in]
    all_goals first
      | rfl
  refine fac_quiet 2 rfl rfl rfl (fun _ _ h _ => h) rfl rfl ?_
  apply Exists.intro
  refine ⟨fun sv w' hw' hfa => ?_, ?_⟩
  · refine ⟨rfl, ?_⟩
    simp only [putsL]
    change quietTo _ _ _ _ (Sem.run _ (execOp (Act.eval _) _) _)
    try simp only [Act.put, List.setIfInBounds_toArray, List.set_cons_succ, List.set_cons_zero]
    simp [go_sem, quietTo, Ext.refl]
    all_goals first
      | rfl
  refine fac_quiet 3 rfl rfl rfl (fun _ _ h _ => h) rfl rfl ?_
  apply Exists.intro
  refine ⟨fun sv w' hw' hfa => ?_, ?_⟩
  · obtain ⟨f2, -⟩ := hfa
    replace f2 : sv 2 = _ := f2
    try dsimp only at f2
    have hk9 := (Ext.refl W).drew.trans hw'; obtain ⟨y1, -⟩ := (hX.ext hk9).walk; obtain ⟨y2, -⟩ := (hY.ext hk9).walk
    refine ⟨rfl, ?_⟩
    simp only [putsL]
    change quietTo _ _ _ _ (Sem.run _ (execOp (Act.eval (Act.put _ (some 7) (sv 2))) _) _)
    try simp only [Act.put, List.setIfInBounds_toArray, List.set_cons_succ, List.set_cons_zero]
    simp [go_sem, quietTo, Ext.refl, ↓IntWalk.iteOmega, f2, y2]
    all_goals try simp (disch := omega) only [IntWalk.i64_in]
    all_goals first
      | rfl
  refine fac_quiet 4 rfl rfl rfl (fun _ _ h _ => h) rfl rfl ?_
  apply Exists.intro
  refine ⟨fun sv w' hw' hfa => ?_, ?_⟩
  · obtain ⟨f0, f1, f2, f3, -⟩ := hfa
    replace f0 : sv 0 = _ := f0
    try dsimp only at f0
    replace f1 : sv 1 = _ := f1
    try dsimp only at f1
    replace f2 : sv 2 = _ := f2
    try dsimp only at f2
    replace f3 : sv 3 = _ := f3
    try dsimp only at f3
    have hk9 := (Ext.refl W).drew.trans hw'; obtain ⟨y1, -⟩ := (hX.ext hk9).walk; obtain ⟨y2, -⟩ := (hY.ext hk9).walk
    refine ⟨rfl, ?_⟩
    simp only [putsL]
    change quietTo _ _ _ _ (Sem.run _ (execOp (Act.eval (Act.put (Act.put (Act.put (Act.put _ (some 8) (sv 3)) (some 7) (sv 2)) (some 6) (sv 1)) (some 5) (sv 0))) _) _)
    try simp only [Act.put, List.setIfInBounds_toArray, List.set_cons_succ, List.set_cons_zero]
    simp [go_sem, quietTo, Ext.refl, ↓IntWalk.iteOmega, f1, f3]
    all_goals try simp (disch := omega) only [IntWalk.i64_in]
    all_goals first
      | rfl
      | (exact cmpInt_any _ _ _)
  refine fac_quiet 5 rfl rfl rfl (fun _ _ h _ => h) rfl rfl ?_
  apply Exists.intro
  refine ⟨fun sv w' hw' hfa => ?_, ?_⟩
  · refine ⟨rfl, ?_⟩
    simp only [putsL]
    change quietTo _ _ _ _ (Sem.run _ (execOp (Act.eval _) _) _)
    try simp only [Act.put, List.setIfInBounds_toArray, List.set_cons_succ, List.set_cons_zero]
    simp [go_sem, quietTo, Ext.refl]
    all_goals first
      | rfl
  refine fac_quiet 6 rfl rfl rfl (fun _ _ h _ => h) rfl rfl ?_
  apply Exists.intro
  refine ⟨fun sv w' hw' hfa => ?_, ?_⟩
  · obtain ⟨f5, -⟩ := hfa
    replace f5 : sv 5 = _ := f5
    try dsimp only at f5
    have hk9 := (Ext.refl W).drew.trans hw'; obtain ⟨y1, -⟩ := (hX.ext hk9).walk; obtain ⟨y2, -⟩ := (hY.ext hk9).walk
    refine ⟨rfl, ?_⟩
    simp only [putsL]
    change quietTo _ _ _ _ (Sem.run _ (execOp (Act.eval (Act.put _ (some 10) (sv 5))) _) _)
    try simp only [Act.put, List.setIfInBounds_toArray, List.set_cons_succ, List.set_cons_zero]
    simp [go_sem, quietTo, Ext.refl, ↓IntWalk.iteOmega, f5, y1]
    all_goals try simp (disch := omega) only [IntWalk.i64_in]
    all_goals first
      | rfl
  refine fac_quiet 7 rfl rfl rfl (fun _ _ h _ => h) rfl rfl ?_
  apply Exists.intro
  refine ⟨fun sv w' hw' hfa => ?_, ?_⟩
  · refine ⟨rfl, ?_⟩
    simp only [putsL]
    change quietTo _ _ _ _ (Sem.run _ (execOp (Act.eval _) _) _)
    try simp only [Act.put, List.setIfInBounds_toArray, List.set_cons_succ, List.set_cons_zero]
    simp [go_sem, quietTo, Ext.refl]
    all_goals first
      | rfl
  refine fac_quiet 8 rfl rfl rfl (fun _ _ h _ => h) rfl rfl ?_
  apply Exists.intro
  refine ⟨fun sv w' hw' hfa => ?_, ?_⟩
  · obtain ⟨f7, -⟩ := hfa
    replace f7 : sv 7 = _ := f7
    try dsimp only at f7
    have hk9 := (Ext.refl W).drew.trans hw'; obtain ⟨y1, -⟩ := (hX.ext hk9).walk; obtain ⟨y2, -⟩ := (hY.ext hk9).walk
    refine ⟨rfl, ?_⟩
    simp only [putsL]
    change quietTo _ _ _ _ (Sem.run _ (execOp (Act.eval (Act.put _ (some 12) (sv 7))) _) _)
    try simp only [Act.put, List.setIfInBounds_toArray, List.set_cons_succ, List.set_cons_zero]
    simp [go_sem, quietTo, Ext.refl, ↓IntWalk.iteOmega, f7, y2]
    all_goals try simp (disch := omega) only [IntWalk.i64_in]
    all_goals first
      | rfl
  refine fac_quiet 9 rfl rfl rfl (fun _ _ h _ => h) rfl rfl ?_
  apply Exists.intro
  refine ⟨fun sv w' hw' hfa => ?_, ?_⟩
  · obtain ⟨f5, f6, f7, f8, -⟩ := hfa
    replace f5 : sv 5 = _ := f5
    try dsimp only at f5
    replace f6 : sv 6 = _ := f6
    try dsimp only at f6
    replace f7 : sv 7 = _ := f7
    try dsimp only at f7
    replace f8 : sv 8 = _ := f8
    try dsimp only at f8
    have hk9 := (Ext.refl W).drew.trans hw'; obtain ⟨y1, -⟩ := (hX.ext hk9).walk; obtain ⟨y2, -⟩ := (hY.ext hk9).walk
    refine ⟨rfl, ?_⟩
    simp only [putsL]
    change quietTo _ _ _ _ (Sem.run _ (execOp (Act.eval (Act.put (Act.put (Act.put (Act.put _ (some 13) (sv 8)) (some 12) (sv 7)) (some 11) (sv 6)) (some 10) (sv 5))) _) _)
    try simp only [Act.put, List.setIfInBounds_toArray, List.set_cons_succ, List.set_cons_zero]
    simp [go_sem, quietTo, Ext.refl, ↓IntWalk.iteOmega, f6, f8]
    all_goals try simp (disch := omega) only [IntWalk.i64_in]
    all_goals first
      | rfl
      | (exact cmpInt_any _ _ _)
  refine fac_row 10 rfl rfl rfl (fun _ _ h _ => h) (fun _ _ h => h.size) (fun _ _ _ _ _ he _ hb => hb.ext he) ?_
  apply Exists.intro
  apply Exists.intro
  apply Exists.intro
  apply Exists.intro
  refine ⟨fun sv w' hw' hfa => ?_, ?_⟩
  · obtain ⟨_, _, _, _, f4, _, _, _, _, f9, -⟩ := hfa
    replace f4 : sv 4 = _ := f4
    try dsimp only at f4
    replace f9 : sv 9 = _ := f9
    try dsimp only at f9
    refine ⟨rfl, ?_⟩
    simp only [putsL]
    change rowTo _ _ _ _ _ (Sem.run _ (execOp (Act.eval (Act.put (Act.put (Act.put (Act.put (Act.put (Act.put (Act.put (Act.put (Act.put (Act.put _ (some 14) (sv 9)) (some 13) (sv 8)) (some 12) (sv 7)) (some 11) (sv 6)) (some 10) (sv 5)) (some 9) (sv 4)) (some 8) (sv 3)) (some 7) (sv 2)) (some 6) (sv 1)) (some 5) (sv 0))) _) _)
    try simp only [Act.put, List.setIfInBounds_toArray, List.set_cons_succ, List.set_cons_zero]
    simp [go_sem, rowTo, Ext.refl, f4, f9]
    all_goals try simp (disch := omega) only [IntWalk.i64_in]
    all_goals first
      | rfl
      | exact ⟨rfl, rfl⟩
      | exact ⟨⟨rfl, rfl⟩, rfl⟩
  refine fac_quiet 11 rfl rfl rfl (fun _ _ h _ => h) rfl rfl ?_
  apply Exists.intro
  refine ⟨fun sv w' hw' hfa => ?_, ?_⟩
  · obtain ⟨f0, f1, f2, f3, f4, f5, f6, f7, f8, f9, f10, -⟩ := hfa
    replace f0 : sv 0 = _ := f0
    try dsimp only at f0
    replace f1 : sv 1 = _ := f1
    try dsimp only at f1
    replace f2 : sv 2 = _ := f2
    try dsimp only at f2
    replace f3 : sv 3 = _ := f3
    try dsimp only at f3
    replace f4 : sv 4 = _ := f4
    try dsimp only at f4
    replace f5 : sv 5 = _ := f5
    try dsimp only at f5
    replace f6 : sv 6 = _ := f6
    try dsimp only at f6
    replace f7 : sv 7 = _ := f7
    try dsimp only at f7
    replace f8 : sv 8 = _ := f8
    try dsimp only at f8
    replace f9 : sv 9 = _ := f9
    try dsimp only at f9
    obtain ⟨g10, f10, l10, b10⟩ := f10
    replace f10 : sv 10 = _ := f10
    obtain ⟨p10, q10⟩ := b10.walk
    have hk9 := (Ext.refl W).drew.trans hw'; obtain ⟨y1, -⟩ := (hX.ext hk9).walk; obtain ⟨y2, -⟩ := (hY.ext hk9).walk
    refine ⟨rfl, ?_⟩
    simp only [putsL]
    change quietTo _ _ _ _ (Sem.run _ (execOp (Act.eval (Act.put (Act.put (Act.put (Act.put (Act.put (Act.put (Act.put (Act.put (Act.put (Act.put (Act.put _ (some 15) (sv 10)) (some 14) (sv 9)) (some 13) (sv 8)) (some 12) (sv 7)) (some 11) (sv 6)) (some 10) (sv 5)) (some 9) (sv 4)) (some 8) (sv 3)) (some 7) (sv 2)) (some 6) (sv 1)) (some 5) (sv 0))) _) _)
    try simp only [Act.put, List.setIfInBounds_toArray, List.set_cons_succ, List.set_cons_zero]
    simp [go_sem, quietTo, Ext.refl, ↓IntWalk.iteOmega, f10, p10, q10]
    all_goals try simp (disch := omega) only [IntWalk.i64_in]
    all_goals first
      | rfl
      | (exact (orInt_blk _ _ 2 [cmpZ a.row b.row, cmpZ a.place b.place] _ (by simp) b10).mono fun _ _ h => ⟨h.1, h.2 ▸ Ext.refl _⟩)
  refine fac_nil fun xq wrq herq hfrq hcrq holdq hapq => ?_
  obtain ⟨f0, f1, f2, f3, f4, f5, f6, f7, f8, f9, f10, f11, -⟩ := hfrq
  replace f0 : xq 0 = _ := f0
  try dsimp only at f0
  replace f1 : xq 1 = _ := f1
  try dsimp only at f1
  replace f2 : xq 2 = _ := f2
  try dsimp only at f2
  replace f3 : xq 3 = _ := f3
  try dsimp only at f3
  replace f4 : xq 4 = _ := f4
  try dsimp only at f4
  replace f5 : xq 5 = _ := f5
  try dsimp only at f5
  replace f6 : xq 6 = _ := f6
  try dsimp only at f6
  replace f7 : xq 7 = _ := f7
  try dsimp only at f7
  replace f8 : xq 8 = _ := f8
  try dsimp only at f8
  replace f9 : xq 9 = _ := f9
  try dsimp only at f9
  obtain ⟨g10, f10, l10, b10⟩ := f10
  replace f10 : xq 10 = _ := f10
  obtain ⟨p10, q10⟩ := b10.walk
  replace f11 : xq 11 = _ := f11
  try dsimp only at f11
  change wpList _ _ _ _ (Act.put (Act.put (Act.put (Act.put (Act.put (Act.put (Act.put (Act.put (Act.put (Act.put (Act.put (Act.put _ (some 5) (xq 0)) (some 6) (xq 1)) (some 7) (xq 2)) (some 8) (xq 3)) (some 9) (xq 4)) (some 10) (xq 5)) (some 11) (xq 6)) (some 12) (xq 7)) (some 13) (xq 8)) (some 14) (xq 9)) (some 15) (xq 10)) (some 16) (xq 11)) _
  simp only [putsL, Nat.reduceAdd, List.drop_succ_cons, List.drop_zero, List.drop_nil, Act.put, List.setIfInBounds_toArray, List.set_cons_succ, List.set_cons_zero]
  try simp only [f0, f1, f2, f3, f4, f5, f6, f7, f8, f9, f10, f11]
  clear f0 f1 f2 f3 f4 f5 f6 f7 f8 f9 f11
  clear holdq hapq
  go_wp2
  go_ret
  exact ⟨rfl, hE.trans ((Ext.refl _).drew.trans herq)⟩
set_option maxRecDepth 100000 in
set_option maxHeartbeats 1600000 in
theorem byPlaceSt_any (a b : StandV) (w : World) :
    Calls Tryz.prog 55 #[.agg #[.string a.name, .int .i64 a.row, .int .i64 a.place], .agg #[.string b.name, .int .i64 b.row, .int .i64 b.place]] w fun e w' => e = .returned (.int .i64 (cmpV a b)) ∧ Ext w w' := by
  rw [← cmpV_or]
  have hX : Blk ((w.alloc (.cells #[.string a.name, .int .i64 a.row, .int .i64 a.place] 48)).alloc (.cells #[.string b.name, .int .i64 b.row, .int .i64 b.place] 48)) w.heap.size 48 #[.string a.name, .int .i64 a.row, .int .i64 a.place] := (Blk.new' rfl).alloc _
  have hY : Blk ((w.alloc (.cells #[.string a.name, .int .i64 a.row, .int .i64 a.place] 48)).alloc (.cells #[.string b.name, .int .i64 b.row, .int .i64 b.place] 48)) (w.heap.size + 1) 48 #[.string b.name, .int .i64 b.row, .int .i64 b.place] := Blk.new' (by simp)
  have hE : Ext w ((w.alloc (.cells #[.string a.name, .int .i64 a.row, .int .i64 a.place] 48)).alloc (.cells #[.string b.name, .int .i64 b.row, .int .i64 b.place] 48)) := ((Ext.refl _).alloc _).alloc _
  go_enter Tryz.func55, Tryz.ntmps55
  go_upto_region 1 with fail
  generalize (w.alloc (.cells #[.string a.name, .int .i64 a.row, .int .i64 a.place] 48)).alloc (.cells #[.string b.name, .int .i64 b.row, .int .i64 b.place] 48) = W at *
  refine wp_region_facts [] [([], false, false), ([0], false, false), ([], false, false), ([2], false, false), ([0, 1, 2, 3], false, false), ([], false, false), ([5], false, false), ([], false, false), ([7], false, false), ([5, 6, 7, 8], false, false), ([0, 1, 2, 3, 4, 5, 6, 7, 8, 9], false, true), ([0, 1, 2, 3, 4, 5, 6, 7, 8, 9, 10], false, false)] (Ext) Ext (fun _ => True) (by kernel_rfl) (by kernel_rfl) Ext.refl (fun _ _ _ => Ext.trans) (fun _ _ h => h) (fun _ _ h => h.size) (fun _ _ h _ => h) trivial ?_
  dsimp only [List.length_cons, List.length_nil, List.drop_succ_cons, List.drop_zero, List.drop_nil]
  refine fac_quiet 0 rfl rfl rfl (fun _ _ h _ => h) rfl rfl ?_
  apply Exists.intro
  refine ⟨fun sv w' hw' hfa => ?_, ?_⟩
  · refine ⟨rfl, ?_⟩
    simp only [putsL]
    change quietTo _ _ _ _ (Sem.run _ (execOp (Act.eval _) _) _)
    try simp only [Act.put, List.setIfInBounds_toArray, List.set_cons_succ, List.set_cons_zero]
    simp [go_sem, quietTo, Ext.refl]
    all_goals first
      | rfl
  refine fac_quiet 1 rfl rfl rfl (fun _ _ h _ => h) rfl rfl ?_
  apply Exists.intro
  refine ⟨fun sv w' hw' hfa => ?_, ?_⟩
  · obtain ⟨f0, -⟩ := hfa
    replace f0 : sv 0 = _ := f0
    try dsimp only at f0
    have hk9 := (Ext.refl W).drew.trans hw'; obtain ⟨y1, -⟩ := (hX.ext hk9).walk; obtain ⟨y2, -⟩ := (hY.ext hk9).walk
    refine ⟨rfl, ?_⟩
    simp only [putsL]
    change quietTo _ _ _ _ (Sem.run _ (execOp (Act.eval (Act.put _ (some 5) (sv 0))) _) _)
    try simp only [Act.put, List.setIfInBounds_toArray, List.set_cons_succ, List.set_cons_zero]
    simp [go_sem, quietTo, Ext.refl, ↓IntWalk.iteOmega, f0, y1]
    all_goals try simp (disch := omega) only [IntWalk.i64_in]
    all_goals first
      | rfl
  refine fac_quiet 2 rfl rfl rfl (fun _ _ h _ => h) rfl rfl ?_
  apply Exists.intro
  refine ⟨fun sv w' hw' hfa => ?_, ?_⟩
  · refine ⟨rfl, ?_⟩
    simp only [putsL]
    change quietTo _ _ _ _ (Sem.run _ (execOp (Act.eval _) _) _)
    try simp only [Act.put, List.setIfInBounds_toArray, List.set_cons_succ, List.set_cons_zero]
    simp [go_sem, quietTo, Ext.refl]
    all_goals first
      | rfl
  refine fac_quiet 3 rfl rfl rfl (fun _ _ h _ => h) rfl rfl ?_
  apply Exists.intro
  refine ⟨fun sv w' hw' hfa => ?_, ?_⟩
  · obtain ⟨f2, -⟩ := hfa
    replace f2 : sv 2 = _ := f2
    try dsimp only at f2
    have hk9 := (Ext.refl W).drew.trans hw'; obtain ⟨y1, -⟩ := (hX.ext hk9).walk; obtain ⟨y2, -⟩ := (hY.ext hk9).walk
    refine ⟨rfl, ?_⟩
    simp only [putsL]
    change quietTo _ _ _ _ (Sem.run _ (execOp (Act.eval (Act.put _ (some 7) (sv 2))) _) _)
    try simp only [Act.put, List.setIfInBounds_toArray, List.set_cons_succ, List.set_cons_zero]
    simp [go_sem, quietTo, Ext.refl, ↓IntWalk.iteOmega, f2, y2]
    all_goals try simp (disch := omega) only [IntWalk.i64_in]
    all_goals first
      | rfl
  refine fac_quiet 4 rfl rfl rfl (fun _ _ h _ => h) rfl rfl ?_
  apply Exists.intro
  refine ⟨fun sv w' hw' hfa => ?_, ?_⟩
  · obtain ⟨f0, f1, f2, f3, -⟩ := hfa
    replace f0 : sv 0 = _ := f0
    try dsimp only at f0
    replace f1 : sv 1 = _ := f1
    try dsimp only at f1
    replace f2 : sv 2 = _ := f2
    try dsimp only at f2
    replace f3 : sv 3 = _ := f3
    try dsimp only at f3
    have hk9 := (Ext.refl W).drew.trans hw'; obtain ⟨y1, -⟩ := (hX.ext hk9).walk; obtain ⟨y2, -⟩ := (hY.ext hk9).walk
    refine ⟨rfl, ?_⟩
    simp only [putsL]
    change quietTo _ _ _ _ (Sem.run _ (execOp (Act.eval (Act.put (Act.put (Act.put (Act.put _ (some 8) (sv 3)) (some 7) (sv 2)) (some 6) (sv 1)) (some 5) (sv 0))) _) _)
    try simp only [Act.put, List.setIfInBounds_toArray, List.set_cons_succ, List.set_cons_zero]
    simp [go_sem, quietTo, Ext.refl, ↓IntWalk.iteOmega, f1, f3]
    all_goals try simp (disch := omega) only [IntWalk.i64_in]
    all_goals first
      | rfl
      | (exact cmpInt_any _ _ _)
  refine fac_quiet 5 rfl rfl rfl (fun _ _ h _ => h) rfl rfl ?_
  apply Exists.intro
  refine ⟨fun sv w' hw' hfa => ?_, ?_⟩
  · refine ⟨rfl, ?_⟩
    simp only [putsL]
    change quietTo _ _ _ _ (Sem.run _ (execOp (Act.eval _) _) _)
    try simp only [Act.put, List.setIfInBounds_toArray, List.set_cons_succ, List.set_cons_zero]
    simp [go_sem, quietTo, Ext.refl]
    all_goals first
      | rfl
  refine fac_quiet 6 rfl rfl rfl (fun _ _ h _ => h) rfl rfl ?_
  apply Exists.intro
  refine ⟨fun sv w' hw' hfa => ?_, ?_⟩
  · obtain ⟨f5, -⟩ := hfa
    replace f5 : sv 5 = _ := f5
    try dsimp only at f5
    have hk9 := (Ext.refl W).drew.trans hw'; obtain ⟨y1, -⟩ := (hX.ext hk9).walk; obtain ⟨y2, -⟩ := (hY.ext hk9).walk
    refine ⟨rfl, ?_⟩
    simp only [putsL]
    change quietTo _ _ _ _ (Sem.run _ (execOp (Act.eval (Act.put _ (some 10) (sv 5))) _) _)
    try simp only [Act.put, List.setIfInBounds_toArray, List.set_cons_succ, List.set_cons_zero]
    simp [go_sem, quietTo, Ext.refl, ↓IntWalk.iteOmega, f5, y1]
    all_goals try simp (disch := omega) only [IntWalk.i64_in]
    all_goals first
      | rfl
  refine fac_quiet 7 rfl rfl rfl (fun _ _ h _ => h) rfl rfl ?_
  apply Exists.intro
  refine ⟨fun sv w' hw' hfa => ?_, ?_⟩
  · refine ⟨rfl, ?_⟩
    simp only [putsL]
    change quietTo _ _ _ _ (Sem.run _ (execOp (Act.eval _) _) _)
    try simp only [Act.put, List.setIfInBounds_toArray, List.set_cons_succ, List.set_cons_zero]
    simp [go_sem, quietTo, Ext.refl]
    all_goals first
      | rfl
  refine fac_quiet 8 rfl rfl rfl (fun _ _ h _ => h) rfl rfl ?_
  apply Exists.intro
  refine ⟨fun sv w' hw' hfa => ?_, ?_⟩
  · obtain ⟨f7, -⟩ := hfa
    replace f7 : sv 7 = _ := f7
    try dsimp only at f7
    have hk9 := (Ext.refl W).drew.trans hw'; obtain ⟨y1, -⟩ := (hX.ext hk9).walk; obtain ⟨y2, -⟩ := (hY.ext hk9).walk
    refine ⟨rfl, ?_⟩
    simp only [putsL]
    change quietTo _ _ _ _ (Sem.run _ (execOp (Act.eval (Act.put _ (some 12) (sv 7))) _) _)
    try simp only [Act.put, List.setIfInBounds_toArray, List.set_cons_succ, List.set_cons_zero]
    simp [go_sem, quietTo, Ext.refl, ↓IntWalk.iteOmega, f7, y2]
    all_goals try simp (disch := omega) only [IntWalk.i64_in]
    all_goals first
      | rfl
  refine fac_quiet 9 rfl rfl rfl (fun _ _ h _ => h) rfl rfl ?_
  apply Exists.intro
  refine ⟨fun sv w' hw' hfa => ?_, ?_⟩
  · obtain ⟨f5, f6, f7, f8, -⟩ := hfa
    replace f5 : sv 5 = _ := f5
    try dsimp only at f5
    replace f6 : sv 6 = _ := f6
    try dsimp only at f6
    replace f7 : sv 7 = _ := f7
    try dsimp only at f7
    replace f8 : sv 8 = _ := f8
    try dsimp only at f8
    have hk9 := (Ext.refl W).drew.trans hw'; obtain ⟨y1, -⟩ := (hX.ext hk9).walk; obtain ⟨y2, -⟩ := (hY.ext hk9).walk
    refine ⟨rfl, ?_⟩
    simp only [putsL]
    change quietTo _ _ _ _ (Sem.run _ (execOp (Act.eval (Act.put (Act.put (Act.put (Act.put _ (some 13) (sv 8)) (some 12) (sv 7)) (some 11) (sv 6)) (some 10) (sv 5))) _) _)
    try simp only [Act.put, List.setIfInBounds_toArray, List.set_cons_succ, List.set_cons_zero]
    simp [go_sem, quietTo, Ext.refl, ↓IntWalk.iteOmega, f6, f8]
    all_goals try simp (disch := omega) only [IntWalk.i64_in]
    all_goals first
      | rfl
      | (exact cmpInt_any _ _ _)
  refine fac_row 10 rfl rfl rfl (fun _ _ h _ => h) (fun _ _ h => h.size) (fun _ _ _ _ _ he _ hb => hb.ext he) ?_
  apply Exists.intro
  apply Exists.intro
  apply Exists.intro
  apply Exists.intro
  refine ⟨fun sv w' hw' hfa => ?_, ?_⟩
  · obtain ⟨_, _, _, _, f4, _, _, _, _, f9, -⟩ := hfa
    replace f4 : sv 4 = _ := f4
    try dsimp only at f4
    replace f9 : sv 9 = _ := f9
    try dsimp only at f9
    refine ⟨rfl, ?_⟩
    simp only [putsL]
    change rowTo _ _ _ _ _ (Sem.run _ (execOp (Act.eval (Act.put (Act.put (Act.put (Act.put (Act.put (Act.put (Act.put (Act.put (Act.put (Act.put _ (some 14) (sv 9)) (some 13) (sv 8)) (some 12) (sv 7)) (some 11) (sv 6)) (some 10) (sv 5)) (some 9) (sv 4)) (some 8) (sv 3)) (some 7) (sv 2)) (some 6) (sv 1)) (some 5) (sv 0))) _) _)
    try simp only [Act.put, List.setIfInBounds_toArray, List.set_cons_succ, List.set_cons_zero]
    simp [go_sem, rowTo, Ext.refl, f4, f9]
    all_goals try simp (disch := omega) only [IntWalk.i64_in]
    all_goals first
      | rfl
      | exact ⟨rfl, rfl⟩
      | exact ⟨⟨rfl, rfl⟩, rfl⟩
  refine fac_quiet 11 rfl rfl rfl (fun _ _ h _ => h) rfl rfl ?_
  apply Exists.intro
  refine ⟨fun sv w' hw' hfa => ?_, ?_⟩
  · obtain ⟨f0, f1, f2, f3, f4, f5, f6, f7, f8, f9, f10, -⟩ := hfa
    replace f0 : sv 0 = _ := f0
    try dsimp only at f0
    replace f1 : sv 1 = _ := f1
    try dsimp only at f1
    replace f2 : sv 2 = _ := f2
    try dsimp only at f2
    replace f3 : sv 3 = _ := f3
    try dsimp only at f3
    replace f4 : sv 4 = _ := f4
    try dsimp only at f4
    replace f5 : sv 5 = _ := f5
    try dsimp only at f5
    replace f6 : sv 6 = _ := f6
    try dsimp only at f6
    replace f7 : sv 7 = _ := f7
    try dsimp only at f7
    replace f8 : sv 8 = _ := f8
    try dsimp only at f8
    replace f9 : sv 9 = _ := f9
    try dsimp only at f9
    obtain ⟨g10, f10, l10, b10⟩ := f10
    replace f10 : sv 10 = _ := f10
    obtain ⟨p10, q10⟩ := b10.walk
    have hk9 := (Ext.refl W).drew.trans hw'; obtain ⟨y1, -⟩ := (hX.ext hk9).walk; obtain ⟨y2, -⟩ := (hY.ext hk9).walk
    refine ⟨rfl, ?_⟩
    simp only [putsL]
    change quietTo _ _ _ _ (Sem.run _ (execOp (Act.eval (Act.put (Act.put (Act.put (Act.put (Act.put (Act.put (Act.put (Act.put (Act.put (Act.put (Act.put _ (some 15) (sv 10)) (some 14) (sv 9)) (some 13) (sv 8)) (some 12) (sv 7)) (some 11) (sv 6)) (some 10) (sv 5)) (some 9) (sv 4)) (some 8) (sv 3)) (some 7) (sv 2)) (some 6) (sv 1)) (some 5) (sv 0))) _) _)
    try simp only [Act.put, List.setIfInBounds_toArray, List.set_cons_succ, List.set_cons_zero]
    simp [go_sem, quietTo, Ext.refl, ↓IntWalk.iteOmega, f10, p10, q10]
    all_goals try simp (disch := omega) only [IntWalk.i64_in]
    all_goals first
      | rfl
      | (exact (orInt_blk _ _ 2 [cmpZ a.row b.row, cmpZ a.place b.place] _ (by simp) b10).mono fun _ _ h => ⟨h.1, h.2 ▸ Ext.refl _⟩)
  refine fac_nil fun xq wrq herq hfrq hcrq holdq hapq => ?_
  obtain ⟨f0, f1, f2, f3, f4, f5, f6, f7, f8, f9, f10, f11, -⟩ := hfrq
  replace f0 : xq 0 = _ := f0
  try dsimp only at f0
  replace f1 : xq 1 = _ := f1
  try dsimp only at f1
  replace f2 : xq 2 = _ := f2
  try dsimp only at f2
  replace f3 : xq 3 = _ := f3
  try dsimp only at f3
  replace f4 : xq 4 = _ := f4
  try dsimp only at f4
  replace f5 : xq 5 = _ := f5
  try dsimp only at f5
  replace f6 : xq 6 = _ := f6
  try dsimp only at f6
  replace f7 : xq 7 = _ := f7
  try dsimp only at f7
  replace f8 : xq 8 = _ := f8
  try dsimp only at f8
  replace f9 : xq 9 = _ := f9
  try dsimp only at f9
  obtain ⟨g10, f10, l10, b10⟩ := f10
  replace f10 : xq 10 = _ := f10
  obtain ⟨p10, q10⟩ := b10.walk
  replace f11 : xq 11 = _ := f11
  try dsimp only at f11
  change wpList _ _ _ _ (Act.put (Act.put (Act.put (Act.put (Act.put (Act.put (Act.put (Act.put (Act.put (Act.put (Act.put (Act.put _ (some 5) (xq 0)) (some 6) (xq 1)) (some 7) (xq 2)) (some 8) (xq 3)) (some 9) (xq 4)) (some 10) (xq 5)) (some 11) (xq 6)) (some 12) (xq 7)) (some 13) (xq 8)) (some 14) (xq 9)) (some 15) (xq 10)) (some 16) (xq 11)) _
  simp only [putsL, Nat.reduceAdd, List.drop_succ_cons, List.drop_zero, List.drop_nil, Act.put, List.setIfInBounds_toArray, List.set_cons_succ, List.set_cons_zero]
  try simp only [f0, f1, f2, f3, f4, f5, f6, f7, f8, f9, f10, f11]
  clear f0 f1 f2 f3 f4 f5 f6 f7 f8 f9 f11
  clear holdq hapq
  go_wp2
  go_ret
  exact ⟨rfl, hE.trans ((Ext.refl _).drew.trans herq)⟩
end Go.Proofs.YtfcoeikekbjgpaaGreatDoor
