/- The closure of HeldMelodiesEnd that looks for a step. Conditions: as each theorem says. -/
import Derived.Test.YtddlhjbbjefdkaaGreatDoorHeJ40
set_option linter.unusedSimpArgs false
set_option linter.unusedVariables false
namespace Go.Proofs.YtddlhjbbjefdkaaGreatDoor
open Go Go.RowKit

/-- What the closure reads. -/
structure StpQ2 (w : World) (gN gi : Nat) (b off c : Nat) (m : List Int) (i : Nat) : Prop where
  hn : Blk w gN 22 #[.slice (some ⟨b, off, none⟩) m.length c]
  hi : Blk w gi 3 #[.int .i64 (i : Int)]
  hb : b < w.heap.size
  he : Elems 1 intC w b off m
  hlen : m.length ≤ 400
  hr : ∀ x ∈ m, 0 ≤ x ∧ x ≤ 127
theorem StpQ2.ext {w w' : World} {gN gi b off c : Nat} {m : List Int} {i : Nat} (h : StpQ2 w gN gi b off c m i) (he : Ext w w') : StpQ2 w' gN gi b off c m i :=
  ⟨h.hn.ext he, h.hi.ext he, Nat.lt_of_lt_of_le h.hb he.size, h.he.ext he h.hb, h.hlen, h.hr⟩
set_option maxRecDepth 100000 in
set_option maxHeartbeats 1600000 in
theorem stepPred2 {w : World} {gN gi b off c : Nat} {m : List Int} {i : Nat} (h : StpQ2 w gN gi b off c m i) (hi : i + 1 < m.length) :
    PredBelow Tryz.prog 13 #[.pointer (some ⟨gN, 0, none⟩), .pointer (some ⟨gi, 0, none⟩)] (fun s : StpR => .agg (stpC s).toArray) (fun s => decide (s.size = gapAt m i)) w := fun W s hb => by
  have hE : Ext w W := hb
  show Calls Tryz.prog 13 #[.agg #[.int .i64 s.size, .slice s.p s.n s.c], .pointer (some ⟨gN, 0, none⟩), .pointer (some ⟨gi, 0, none⟩)] W _
  have hE1 : Ext W (W.alloc (.cells #[.int .i64 s.size, .slice s.p s.n s.c] 41)) := (Ext.refl _).alloc _
  have hX : Blk (W.alloc (.cells #[.int .i64 s.size, .slice s.p s.n s.c] 41)) W.heap.size 41 #[.int .i64 s.size, .slice s.p s.n s.c] := Blk.new' rfl
  have hq := (h.ext hE).ext hE1
  obtain ⟨x, hx⟩ := getD_some (rfl : m.length = m.length) (show i < m.length by omega)
  obtain ⟨y, hy⟩ := getD_some (rfl : m.length = m.length) hi
  have c1 := hq.he.int hx
  have c2 := hq.he.int hy
  obtain ⟨x1, x2⟩ := h.hr x (List.mem_of_getElem? hx)
  obtain ⟨y1, y2⟩ := h.hr y (List.mem_of_getElem? hy)
  have hg : gapAt m i = y - x := by unfold gapAt; rw [atL_of hx, atL_of hy]
  rw [hg]
  have hln := h.hlen
  have hbq := hq.hb
  have hiI : (i : Int) + 1 < m.length := by omega
  have hiI2 : (i : Int) < m.length := by omega
  have hEw := hE.trans hE1
  clear hg hx hy hb h
  go_enter Tryz.func13, Tryz.ntmps13
  go_upto_region 1 with fail
  generalize W.alloc (.cells #[.int .i64 s.size, .slice s.p s.n s.c] 41) = W1 at *
  refine wp_region_facts [] [([], false, false), ([0], false, false), ([], false, false), ([], false, false), ([3], false, false), ([2, 3, 4], false, false), ([2, 3, 4, 5], false, false), ([], false, false), ([], false, false), ([7, 8], false, false), ([7, 8, 9], false, false), ([2, 3, 4, 5, 6, 7, 8, 9, 10], false, false), ([0, 1, 2, 3, 4, 5, 6, 7, 8, 9, 10, 11], false, false)] (Ext) Ext (fun _ => True) (by kernel_rfl) (by kernel_rfl) Ext.refl (fun _ _ _ => Ext.trans) (fun _ _ h => h) (fun _ _ h => h.size) (fun _ _ h _ => h) trivial ?_
  dsimp only [List.length_cons, List.length_nil, List.drop_succ_cons, List.drop_zero, List.drop_nil]
  refine fac_quiet 0 rfl rfl rfl (fun _ _ h _ => h) rfl rfl ?_
  apply Exists.intro
  refine ⟨fun sv w' hw' hfa => ?_, ?_⟩
  · refine ⟨rfl, ?_⟩
    simp only [putsL]
    change quietTo _ _ _ _ (Sem.run _ (execOp (Act.eval _) _) _)
    try simp only [Act.put, List.setIfInBounds_toArray, List.set_cons_succ, List.set_cons_zero]
    simp [go_sem, quietTo, Ext.refl]
    all_goals first
      | rfl
  refine fac_quiet 1 rfl rfl rfl (fun _ _ h _ => h) rfl rfl ?_
  apply Exists.intro
  refine ⟨fun sv w' hw' hfa => ?_, ?_⟩
  · obtain ⟨f0, -⟩ := hfa
    replace f0 : sv 0 = _ := f0
    try dsimp only at f0
    have hk9 := (Ext.refl W1).drew.trans hw'; obtain ⟨z1, -⟩ := (hX.ext hk9).walk; obtain ⟨z2, -⟩ := (hq.hn.ext hk9).walk; obtain ⟨z3, -⟩ := (hq.hi.ext hk9).walk; have z4 := (hk9.walk.1 _ _ hbq).trans c1; have z5 := (hk9.walk.1 _ _ hbq).trans c2
    refine ⟨rfl, ?_⟩
    simp only [putsL]
    change quietTo _ _ _ _ (Sem.run _ (execOp (Act.eval (Act.put _ (some 5) (sv 0))) _) _)
    try simp only [Act.put, List.setIfInBounds_toArray, List.set_cons_succ, List.set_cons_zero]
    simp [go_sem, quietTo, Ext.refl, ↓IntWalk.iteOmega, f0, z1]
    all_goals try simp (disch := omega) only [IntWalk.i64_in]
    all_goals first
      | rfl
  refine fac_quiet 2 rfl rfl rfl (fun _ _ h _ => h) rfl rfl ?_
  apply Exists.intro
  refine ⟨fun sv w' hw' hfa => ?_, ?_⟩
  · have hk9 := (Ext.refl W1).drew.trans hw'; obtain ⟨z1, -⟩ := (hX.ext hk9).walk; obtain ⟨z2, -⟩ := (hq.hn.ext hk9).walk; obtain ⟨z3, -⟩ := (hq.hi.ext hk9).walk; have z4 := (hk9.walk.1 _ _ hbq).trans c1; have z5 := (hk9.walk.1 _ _ hbq).trans c2
    refine ⟨rfl, ?_⟩
    simp only [putsL]
    change quietTo _ _ _ _ (Sem.run _ (execOp (Act.eval _) _) _)
    try simp only [Act.put, List.setIfInBounds_toArray, List.set_cons_succ, List.set_cons_zero]
    simp [go_sem, quietTo, Ext.refl, ↓IntWalk.iteOmega, z2]
    all_goals try simp (disch := omega) only [IntWalk.i64_in]
    all_goals first
      | rfl
  refine fac_quiet 3 rfl rfl rfl (fun _ _ h _ => h) rfl rfl ?_
  apply Exists.intro
  refine ⟨fun sv w' hw' hfa => ?_, ?_⟩
  · have hk9 := (Ext.refl W1).drew.trans hw'; obtain ⟨z1, -⟩ := (hX.ext hk9).walk; obtain ⟨z2, -⟩ := (hq.hn.ext hk9).walk; obtain ⟨z3, -⟩ := (hq.hi.ext hk9).walk; have z4 := (hk9.walk.1 _ _ hbq).trans c1; have z5 := (hk9.walk.1 _ _ hbq).trans c2
    refine ⟨rfl, ?_⟩
    simp only [putsL]
    change quietTo _ _ _ _ (Sem.run _ (execOp (Act.eval _) _) _)
    try simp only [Act.put, List.setIfInBounds_toArray, List.set_cons_succ, List.set_cons_zero]
    simp [go_sem, quietTo, Ext.refl, ↓IntWalk.iteOmega, z3]
    all_goals try simp (disch := omega) only [IntWalk.i64_in]
    all_goals first
      | rfl
  refine fac_quiet 4 rfl rfl rfl (fun _ _ h _ => h) rfl rfl ?_
  apply Exists.intro
  refine ⟨fun sv w' hw' hfa => ?_, ?_⟩
  · obtain ⟨f3, -⟩ := hfa
    replace f3 : sv 3 = _ := f3
    try dsimp only at f3
    refine ⟨rfl, ?_⟩
    simp only [putsL]
    change quietTo _ _ _ _ (Sem.run _ (execOp (Act.eval (Act.put _ (some 8) (sv 3))) _) _)
    try simp only [Act.put, List.setIfInBounds_toArray, List.set_cons_succ, List.set_cons_zero]
    simp [go_sem, quietTo, Ext.refl, ↓IntWalk.iteOmega, f3]
    all_goals try simp (disch := omega) only [IntWalk.i64_in]
    all_goals first
      | rfl
  refine fac_quiet 5 rfl rfl rfl (fun _ _ h _ => h) rfl rfl ?_
  apply Exists.intro
  refine ⟨fun sv w' hw' hfa => ?_, ?_⟩
  · obtain ⟨f2, _, f4, -⟩ := hfa
    replace f2 : sv 2 = _ := f2
    try dsimp only at f2
    replace f4 : sv 4 = _ := f4
    try dsimp only at f4
    have hk9 := (Ext.refl W1).drew.trans hw'; obtain ⟨z1, -⟩ := (hX.ext hk9).walk; obtain ⟨z2, -⟩ := (hq.hn.ext hk9).walk; obtain ⟨z3, -⟩ := (hq.hi.ext hk9).walk; have z4 := (hk9.walk.1 _ _ hbq).trans c1; have z5 := (hk9.walk.1 _ _ hbq).trans c2
    refine ⟨rfl, ?_⟩
    simp only [putsL]
    change quietTo _ _ _ _ (Sem.run _ (execOp (Act.eval (Act.put (Act.put (Act.put _ (some 9) (sv 4)) (some 8) (sv 3)) (some 7) (sv 2))) _) _)
    try simp only [Act.put, List.setIfInBounds_toArray, List.set_cons_succ, List.set_cons_zero]
    simp [go_sem, quietTo, Ext.refl, ↓IntWalk.iteOmega, f2, f4, hiI]
    all_goals try simp (disch := omega) only [IntWalk.i64_in]
    all_goals first
      | rfl
  refine fac_quiet 6 rfl rfl rfl (fun _ _ h _ => h) rfl rfl ?_
  apply Exists.intro
  refine ⟨fun sv w' hw' hfa => ?_, ?_⟩
  · obtain ⟨_, _, _, f5, -⟩ := hfa
    replace f5 : sv 5 = _ := f5
    try dsimp only at f5
    have hk9 := (Ext.refl W1).drew.trans hw'; obtain ⟨z1, -⟩ := (hX.ext hk9).walk; obtain ⟨z2, -⟩ := (hq.hn.ext hk9).walk; obtain ⟨z3, -⟩ := (hq.hi.ext hk9).walk; have z4 := (hk9.walk.1 _ _ hbq).trans c1; have z5 := (hk9.walk.1 _ _ hbq).trans c2
    refine ⟨rfl, ?_⟩
    simp only [putsL]
    change quietTo _ _ _ _ (Sem.run _ (execOp (Act.eval (Act.put (Act.put (Act.put (Act.put _ (some 10) (sv 5)) (some 9) (sv 4)) (some 8) (sv 3)) (some 7) (sv 2))) _) _)
    try simp only [Act.put, List.setIfInBounds_toArray, List.set_cons_succ, List.set_cons_zero]
    simp [go_sem, quietTo, Ext.refl, ↓IntWalk.iteOmega, f5, z5]
    all_goals try simp (disch := omega) only [IntWalk.i64_in]
    all_goals first
      | rfl
  refine fac_quiet 7 rfl rfl rfl (fun _ _ h _ => h) rfl rfl ?_
  apply Exists.intro
  refine ⟨fun sv w' hw' hfa => ?_, ?_⟩
  · have hk9 := (Ext.refl W1).drew.trans hw'; obtain ⟨z1, -⟩ := (hX.ext hk9).walk; obtain ⟨z2, -⟩ := (hq.hn.ext hk9).walk; obtain ⟨z3, -⟩ := (hq.hi.ext hk9).walk; have z4 := (hk9.walk.1 _ _ hbq).trans c1; have z5 := (hk9.walk.1 _ _ hbq).trans c2
    refine ⟨rfl, ?_⟩
    simp only [putsL]
    change quietTo _ _ _ _ (Sem.run _ (execOp (Act.eval _) _) _)
    try simp only [Act.put, List.setIfInBounds_toArray, List.set_cons_succ, List.set_cons_zero]
    simp [go_sem, quietTo, Ext.refl, ↓IntWalk.iteOmega, z2]
    all_goals try simp (disch := omega) only [IntWalk.i64_in]
    all_goals first
      | rfl
  refine fac_quiet 8 rfl rfl rfl (fun _ _ h _ => h) rfl rfl ?_
  apply Exists.intro
  refine ⟨fun sv w' hw' hfa => ?_, ?_⟩
  · have hk9 := (Ext.refl W1).drew.trans hw'; obtain ⟨z1, -⟩ := (hX.ext hk9).walk; obtain ⟨z2, -⟩ := (hq.hn.ext hk9).walk; obtain ⟨z3, -⟩ := (hq.hi.ext hk9).walk; have z4 := (hk9.walk.1 _ _ hbq).trans c1; have z5 := (hk9.walk.1 _ _ hbq).trans c2
    refine ⟨rfl, ?_⟩
    simp only [putsL]
    change quietTo _ _ _ _ (Sem.run _ (execOp (Act.eval _) _) _)
    try simp only [Act.put, List.setIfInBounds_toArray, List.set_cons_succ, List.set_cons_zero]
    simp [go_sem, quietTo, Ext.refl, ↓IntWalk.iteOmega, z3]
    all_goals try simp (disch := omega) only [IntWalk.i64_in]
    all_goals first
      | rfl
  refine fac_quiet 9 rfl rfl rfl (fun _ _ h _ => h) rfl rfl ?_
  apply Exists.intro
  refine ⟨fun sv w' hw' hfa => ?_, ?_⟩
  · obtain ⟨f7, f8, -⟩ := hfa
    replace f7 : sv 7 = _ := f7
    try dsimp only at f7
    replace f8 : sv 8 = _ := f8
    try dsimp only at f8
    have hk9 := (Ext.refl W1).drew.trans hw'; obtain ⟨z1, -⟩ := (hX.ext hk9).walk; obtain ⟨z2, -⟩ := (hq.hn.ext hk9).walk; obtain ⟨z3, -⟩ := (hq.hi.ext hk9).walk; have z4 := (hk9.walk.1 _ _ hbq).trans c1; have z5 := (hk9.walk.1 _ _ hbq).trans c2
    refine ⟨rfl, ?_⟩
    simp only [putsL]
    change quietTo _ _ _ _ (Sem.run _ (execOp (Act.eval (Act.put (Act.put _ (some 13) (sv 8)) (some 12) (sv 7))) _) _)
    try simp only [Act.put, List.setIfInBounds_toArray, List.set_cons_succ, List.set_cons_zero]
    simp [go_sem, quietTo, Ext.refl, ↓IntWalk.iteOmega, f7, f8, hiI2]
    all_goals try simp (disch := omega) only [IntWalk.i64_in]
    all_goals first
      | rfl
  refine fac_quiet 10 rfl rfl rfl (fun _ _ h _ => h) rfl rfl ?_
  apply Exists.intro
  refine ⟨fun sv w' hw' hfa => ?_, ?_⟩
  · obtain ⟨_, _, f9, -⟩ := hfa
    replace f9 : sv 9 = _ := f9
    try dsimp only at f9
    have hk9 := (Ext.refl W1).drew.trans hw'; obtain ⟨z1, -⟩ := (hX.ext hk9).walk; obtain ⟨z2, -⟩ := (hq.hn.ext hk9).walk; obtain ⟨z3, -⟩ := (hq.hi.ext hk9).walk; have z4 := (hk9.walk.1 _ _ hbq).trans c1; have z5 := (hk9.walk.1 _ _ hbq).trans c2
    refine ⟨rfl, ?_⟩
    simp only [putsL]
    change quietTo _ _ _ _ (Sem.run _ (execOp (Act.eval (Act.put (Act.put (Act.put _ (some 14) (sv 9)) (some 13) (sv 8)) (some 12) (sv 7))) _) _)
    try simp only [Act.put, List.setIfInBounds_toArray, List.set_cons_succ, List.set_cons_zero]
    simp [go_sem, quietTo, Ext.refl, ↓IntWalk.iteOmega, f9, z4]
    all_goals try simp (disch := omega) only [IntWalk.i64_in]
    all_goals first
      | rfl
  refine fac_quiet 11 rfl rfl rfl (fun _ _ h _ => h) rfl rfl ?_
  apply Exists.intro
  refine ⟨fun sv w' hw' hfa => ?_, ?_⟩
  · obtain ⟨_, _, _, _, f6, _, _, _, f10, -⟩ := hfa
    replace f6 : sv 6 = _ := f6
    try dsimp only at f6
    replace f10 : sv 10 = _ := f10
    try dsimp only at f10
    refine ⟨rfl, ?_⟩
    simp only [putsL]
    change quietTo _ _ _ _ (Sem.run _ (execOp (Act.eval (Act.put (Act.put (Act.put (Act.put (Act.put (Act.put (Act.put (Act.put (Act.put _ (some 15) (sv 10)) (some 14) (sv 9)) (some 13) (sv 8)) (some 12) (sv 7)) (some 11) (sv 6)) (some 10) (sv 5)) (some 9) (sv 4)) (some 8) (sv 3)) (some 7) (sv 2))) _) _)
    try simp only [Act.put, List.setIfInBounds_toArray, List.set_cons_succ, List.set_cons_zero]
    simp [go_sem, quietTo, Ext.refl, ↓IntWalk.iteOmega, f6, f10]
    all_goals try simp (disch := omega) only [IntWalk.i64_in]
    all_goals first
      | rfl
  refine fac_quiet 12 rfl rfl rfl (fun _ _ h _ => h) rfl rfl ?_
  apply Exists.intro
  refine ⟨fun sv w' hw' hfa => ?_, ?_⟩
  · obtain ⟨_, f1, _, _, _, _, _, _, _, _, _, f11, -⟩ := hfa
    replace f1 : sv 1 = _ := f1
    try dsimp only at f1
    replace f11 : sv 11 = _ := f11
    try dsimp only at f11
    refine ⟨rfl, ?_⟩
    simp only [putsL]
    change quietTo _ _ _ _ (Sem.run _ (execOp (Act.eval (Act.put (Act.put (Act.put (Act.put (Act.put (Act.put (Act.put (Act.put (Act.put (Act.put (Act.put (Act.put _ (some 16) (sv 11)) (some 15) (sv 10)) (some 14) (sv 9)) (some 13) (sv 8)) (some 12) (sv 7)) (some 11) (sv 6)) (some 10) (sv 5)) (some 9) (sv 4)) (some 8) (sv 3)) (some 7) (sv 2)) (some 6) (sv 1)) (some 5) (sv 0))) _) _)
    try simp only [Act.put, List.setIfInBounds_toArray, List.set_cons_succ, List.set_cons_zero]
    simp [go_sem, quietTo, Ext.refl, ↓IntWalk.iteOmega, f1, f11]
    all_goals try simp (disch := omega) only [IntWalk.i64_in]
    all_goals first
      | rfl
  refine fac_nil fun xa wra hera hfra hcra holda hapa => ?_
  obtain ⟨f0, f1, f2, f3, f4, f5, f6, f7, f8, f9, f10, f11, f12, -⟩ := hfra
  replace f0 : xa 0 = _ := f0
  try dsimp only at f0
  replace f1 : xa 1 = _ := f1
  try dsimp only at f1
  replace f2 : xa 2 = _ := f2
  try dsimp only at f2
  replace f3 : xa 3 = _ := f3
  try dsimp only at f3
  replace f4 : xa 4 = _ := f4
  try dsimp only at f4
  replace f5 : xa 5 = _ := f5
  try dsimp only at f5
  replace f6 : xa 6 = _ := f6
  try dsimp only at f6
  replace f7 : xa 7 = _ := f7
  try dsimp only at f7
  replace f8 : xa 8 = _ := f8
  try dsimp only at f8
  replace f9 : xa 9 = _ := f9
  try dsimp only at f9
  replace f10 : xa 10 = _ := f10
  try dsimp only at f10
  replace f11 : xa 11 = _ := f11
  try dsimp only at f11
  replace f12 : xa 12 = _ := f12
  try dsimp only at f12
  change wpList _ _ _ _ (Act.put (Act.put (Act.put (Act.put (Act.put (Act.put (Act.put (Act.put (Act.put (Act.put (Act.put (Act.put (Act.put _ (some 5) (xa 0)) (some 6) (xa 1)) (some 7) (xa 2)) (some 8) (xa 3)) (some 9) (xa 4)) (some 10) (xa 5)) (some 11) (xa 6)) (some 12) (xa 7)) (some 13) (xa 8)) (some 14) (xa 9)) (some 15) (xa 10)) (some 16) (xa 11)) (some 17) (xa 12)) _
  simp only [putsL, Nat.reduceAdd, List.drop_succ_cons, List.drop_zero, List.drop_nil, Act.put, List.setIfInBounds_toArray, List.set_cons_succ, List.set_cons_zero]
  try simp only [f0, f1, f2, f3, f4, f5, f6, f7, f8, f9, f10, f11, f12]
  clear f0 f1 f2 f3 f4 f5 f6 f7 f8 f9 f10 f11 f12
  clear holda hapa
  go_wp2
  go_ret
  exact ⟨by simp only []; by_cases hq9 : s.size = y - x <;> simp [hq9], hEw.trans ((Ext.refl W1).drew.trans hera)⟩
end Go.Proofs.YtddlhjbbjefdkaaGreatDoor
