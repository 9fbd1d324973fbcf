/- The difference of two pitches of a scale. Conditions: as each theorem says. -/
import Derived.Test.YtkfdolnnkbhlhaaDoorScaleG
namespace Go.Proofs.YtkfdolnnkbhlhaaDoor
open Go Go.RowKit

def betI (x y : I4) (i j : Nat) : I4 := addI (y.up ((j / 12 : Nat) : Int)) (negI (x.up ((i / 12 : Nat) : Int)))

set_option maxRecDepth 100000 in
set_option maxHeartbeats 1600000 in
theorem between_any (xs : List I4) (i j : Nat) (x y : I4) (w : World) (hl : xs.length = 12) (hi : i ≤ 1000) (hj : j ≤ 1000) (hx : xs[i % 12]? = some x) (hy : xs[j % 12]? = some y) (hrx : rightB x = true) (hry : rightB y = true) :
    Calls Tryd.prog 21 #[.agg (sc xs), .int .i64 (i : Int), .int .i64 (j : Int)] w fun e w' => e = .returned (.agg #[.int .i64 (betI x y i j).a, .int .i64 (betI x y i j).b, .int .i64 (betI x y i j).c, .int .i64 (betI x y i j).d]) ∧ Ext w w' := by
  have hinf := sc_info hl
  have h1 := fun u => high_any xs i x u hi hx hrx
  have h2 := fun u => high_any xs j y u hj hy hry
  have h3 := fun u => inverse_any (x.up ((i / 12 : Nat) : Int)) u
  have h4 := fun u => sum_any (y.up ((j / 12 : Nat) : Int)) (negI (x.up ((i / 12 : Nat) : Int))) u
  have hG := (Blk.new' (w := w) (t := 29) (cs := sc xs) rfl).alloc (.cells #[.int .i64 0, .int .i64 0, .int .i64 0, .int .i64 0] 27)
  have hZ : Blk ((w.alloc (.cells (sc xs) 29)).alloc (.cells #[.int .i64 0, .int .i64 0, .int .i64 0, .int .i64 0] 27)) (w.heap.size + 1) 27 #[.int .i64 0, .int .i64 0, .int .i64 0, .int .i64 0] := Blk.new' (by simp)
  have hE : Ext w ((w.alloc (.cells (sc xs) 29)).alloc (.cells #[.int .i64 0, .int .i64 0, .int .i64 0, .int .i64 0] 27)) := ((Ext.refl w).alloc _).alloc _
  replace hx := Lib.hid hx
  replace hy := Lib.hid hy
  replace hl := Lib.hid hl
  generalize hp : x.up ((i / 12 : Nat) : Int) = p at *
  generalize hq : y.up ((j / 12 : Nat) : Int) = q at *
  replace hp := Lib.hid hp
  replace hq := Lib.hid hq
  replace h1 := Lib.hid h1
  replace h2 := Lib.hid h2
  replace h3 := Lib.hid h3
  replace h4 := Lib.hid h4
  go_enter Tryd.func21, Tryd.ntmps21
  go_upto_region 1 with fail
  generalize (w.alloc (.cells (sc xs) 29)).alloc (.cells #[.int .i64 0, .int .i64 0, .int .i64 0, .int .i64 0] 27) = W at *
  refine wp_region_facts [] [([], false, false), ([], false, false), ([0, 1], false, false), ([], false, false), ([], false, false), ([3, 4], false, false), ([3, 4, 5], false, false), ([0, 1, 2, 3, 4, 5, 6], false, false)] (Ext) Ext (fun _ => True) (by kernel_rfl) (by kernel_rfl) Ext.refl (fun _ _ _ => Ext.trans) (fun _ _ h => h) (fun _ _ h => h.size) (fun _ _ h _ => h) trivial ?_
  dsimp only [List.length_cons, List.length_nil, List.drop_succ_cons, List.drop_zero, List.drop_nil]
  refine fac_quiet 0 rfl rfl rfl (fun _ _ h _ => h) rfl rfl ?_
  apply Exists.intro
  refine ⟨fun sv w' hw' hfa => ?_, ?_⟩
  · skip
    refine ⟨rfl, ?_⟩
    simp only [putsL]
    change quietTo _ _ _ _ (Sem.run _ (execOp (Act.eval _) _) _)
    rw [exec_load_row 29 (.tmp 3) rfl w.heap.size rfl 29 (sc xs) (0, 0) _ (hG.ext ((Ext.refl W).drew.trans hw')) Tryd.underlying29 rfl hinf]
    simp [quietTo, Ext.refl]
    all_goals rfl
  refine fac_quiet 1 rfl rfl rfl (fun _ _ h _ => h) rfl rfl ?_
  apply Exists.intro
  refine ⟨fun sv w' hw' hfa => ?_, ?_⟩
  · skip
    refine ⟨rfl, ?_⟩
    simp only [putsL]
    change quietTo _ _ _ _ (Sem.run _ (execOp (Act.eval _) _) _)
    try simp only [Act.put, List.setIfInBounds_toArray, List.set_cons_succ, List.set_cons_zero]
    simp [go_sem, quietTo, Ext.refl]
    all_goals try simp (disch := omega) only [IntWalk.i64_in]
    all_goals first
      | rfl
  refine fac_quiet 2 rfl rfl rfl (fun _ _ h _ => h) rfl rfl ?_
  apply Exists.intro
  refine ⟨fun sv w' hw' hfa => ?_, ?_⟩
  · obtain ⟨f0, f1, -⟩ := hfa
    replace f0 : sv 0 = _ := f0
    try dsimp only at f0
    replace f1 : sv 1 = _ := f1
    try dsimp only at f1
    skip
    refine ⟨rfl, ?_⟩
    simp only [putsL]
    change quietTo _ _ _ _ (Sem.run _ (execOp (Act.eval (Act.put (Act.put _ (some 8) (sv 1)) (some 7) (sv 0))) _) _)
    try simp only [Act.put, List.setIfInBounds_toArray, List.set_cons_succ, List.set_cons_zero]
    simp [go_sem, quietTo, Ext.refl, ↓IntWalk.iteOmega, f0, f1]
    all_goals try simp (disch := omega) only [IntWalk.i64_in]
    all_goals first
      | rfl
      | (exact h2.out _)
  refine fac_quiet 3 rfl rfl rfl (fun _ _ h _ => h) rfl rfl ?_
  apply Exists.intro
  refine ⟨fun sv w' hw' hfa => ?_, ?_⟩
  · skip
    refine ⟨rfl, ?_⟩
    simp only [putsL]
    change quietTo _ _ _ _ (Sem.run _ (execOp (Act.eval _) _) _)
    rw [exec_load_row 29 (.tmp 3) rfl w.heap.size rfl 29 (sc xs) (0, 0) _ (hG.ext ((Ext.refl W).drew.trans hw')) Tryd.underlying29 rfl hinf]
    simp [quietTo, Ext.refl]
    all_goals rfl
  refine fac_quiet 4 rfl rfl rfl (fun _ _ h _ => h) rfl rfl ?_
  apply Exists.intro
  refine ⟨fun sv w' hw' hfa => ?_, ?_⟩
  · skip
    refine ⟨rfl, ?_⟩
    simp only [putsL]
    change quietTo _ _ _ _ (Sem.run _ (execOp (Act.eval _) _) _)
    try simp only [Act.put, List.setIfInBounds_toArray, List.set_cons_succ, List.set_cons_zero]
    simp [go_sem, quietTo, Ext.refl]
    all_goals try simp (disch := omega) only [IntWalk.i64_in]
    all_goals first
      | rfl
  refine fac_quiet 5 rfl rfl rfl (fun _ _ h _ => h) rfl rfl ?_
  apply Exists.intro
  refine ⟨fun sv w' hw' hfa => ?_, ?_⟩
  · obtain ⟨f3, f4, -⟩ := hfa
    replace f3 : sv 3 = _ := f3
    try dsimp only at f3
    replace f4 : sv 4 = _ := f4
    try dsimp only at f4
    skip
    refine ⟨rfl, ?_⟩
    simp only [putsL]
    change quietTo _ _ _ _ (Sem.run _ (execOp (Act.eval (Act.put (Act.put _ (some 11) (sv 4)) (some 10) (sv 3))) _) _)
    try simp only [Act.put, List.setIfInBounds_toArray, List.set_cons_succ, List.set_cons_zero]
    simp [go_sem, quietTo, Ext.refl, ↓IntWalk.iteOmega, f3, f4]
    all_goals try simp (disch := omega) only [IntWalk.i64_in]
    all_goals first
      | rfl
      | (exact h1.out _)
  refine fac_quiet 6 rfl rfl rfl (fun _ _ h _ => h) rfl rfl ?_
  apply Exists.intro
  refine ⟨fun sv w' hw' hfa => ?_, ?_⟩
  · obtain ⟨f3, f4, f5, -⟩ := hfa
    replace f3 : sv 3 = _ := f3
    try dsimp only at f3
    replace f4 : sv 4 = _ := f4
    try dsimp only at f4
    replace f5 : sv 5 = _ := f5
    try dsimp only at f5
    skip
    refine ⟨rfl, ?_⟩
    simp only [putsL]
    change quietTo _ _ _ _ (Sem.run _ (execOp (Act.eval (Act.put (Act.put (Act.put _ (some 12) (sv 5)) (some 11) (sv 4)) (some 10) (sv 3))) _) _)
    try simp only [Act.put, List.setIfInBounds_toArray, List.set_cons_succ, List.set_cons_zero]
    simp [go_sem, quietTo, Ext.refl, ↓IntWalk.iteOmega, f5]
    all_goals try simp (disch := omega) only [IntWalk.i64_in]
    all_goals first
      | rfl
      | (exact h3.out _)
  refine fac_quiet 7 rfl rfl rfl (fun _ _ h _ => h) rfl rfl ?_
  apply Exists.intro
  refine ⟨fun sv w' hw' hfa => ?_, ?_⟩
  · obtain ⟨f0, f1, f2, f3, f4, f5, f6, -⟩ := hfa
    replace f0 : sv 0 = _ := f0
    try dsimp only at f0
    replace f1 : sv 1 = _ := f1
    try dsimp only at f1
    replace f2 : sv 2 = _ := f2
    try dsimp only at f2
    replace f3 : sv 3 = _ := f3
    try dsimp only at f3
    replace f4 : sv 4 = _ := f4
    try dsimp only at f4
    replace f5 : sv 5 = _ := f5
    try dsimp only at f5
    replace f6 : sv 6 = _ := f6
    try dsimp only at f6
    skip
    refine ⟨rfl, ?_⟩
    simp only [putsL]
    change quietTo _ _ _ _ (Sem.run _ (execOp (Act.eval (Act.put (Act.put (Act.put (Act.put (Act.put (Act.put (Act.put _ (some 13) (sv 6)) (some 12) (sv 5)) (some 11) (sv 4)) (some 10) (sv 3)) (some 9) (sv 2)) (some 8) (sv 1)) (some 7) (sv 0))) _) _)
    try simp only [Act.put, List.setIfInBounds_toArray, List.set_cons_succ, List.set_cons_zero]
    simp [go_sem, quietTo, Ext.refl, ↓IntWalk.iteOmega, f2, f6]
    all_goals try simp (disch := omega) only [IntWalk.i64_in]
    all_goals first
      | rfl
      | (exact h4.out _)
  refine fac_nil fun xb wrb herb hfrb hcrb holdb hapb => ?_
  obtain ⟨f0, f1, f2, f3, f4, f5, f6, f7, -⟩ := hfrb
  replace f0 : xb 0 = _ := f0
  try dsimp only at f0
  replace f1 : xb 1 = _ := f1
  try dsimp only at f1
  replace f2 : xb 2 = _ := f2
  try dsimp only at f2
  replace f3 : xb 3 = _ := f3
  try dsimp only at f3
  replace f4 : xb 4 = _ := f4
  try dsimp only at f4
  replace f5 : xb 5 = _ := f5
  try dsimp only at f5
  replace f6 : xb 6 = _ := f6
  try dsimp only at f6
  replace f7 : xb 7 = _ := f7
  try dsimp only at f7
  change wpList _ _ _ _ (Act.put (Act.put (Act.put (Act.put (Act.put (Act.put (Act.put (Act.put _ (some 7) (xb 0)) (some 8) (xb 1)) (some 9) (xb 2)) (some 10) (xb 3)) (some 11) (xb 4)) (some 12) (xb 5)) (some 13) (xb 6)) (some 14) (xb 7)) _
  simp only [putsL, Nat.reduceAdd, List.drop_succ_cons, List.drop_zero, List.drop_nil, Act.put, List.setIfInBounds_toArray, List.set_cons_succ, List.set_cons_zero]
  try simp only [f0, f1, f2, f3, f4, f5, f6, f7]
  clear f0 f1 f2 f3 f4 f5 f6 f7
  clear holdb hapb
  have hE2 := hE.trans ((Ext.refl _).drew.trans herb)
  have hZ2 := hZ.ext ((Ext.refl _).drew.trans herb)
  obtain ⟨z1, z2⟩ := hZ2.walk
  go_wp2
  go_light
  have hv : betI x y i j = addI q (negI p) := by unfold betI; rw [hp.out, hq.out]
  rw [hv]
  exact bodyPost_ret (v := .agg #[.int .i64 (addI q (negI p)).a, .int .i64 (addI q (negI p)).b, .int .i64 (addI q (negI p)).c, .int .i64 (addI q (negI p)).d]) (by simp [results, Tryd.results21, go_sem, *]) rfl ⟨rfl, (by (repeat (with_reducible first | assumption | exact Ext.refl _ | refine Ext.drew ?_ | refine Ext.alloc ?_ _ | refine Ext.setCell ?_ (by simp <;> omega) _ | refine Ext.trans ?_ (by assumption))))⟩
end Go.Proofs.YtkfdolnnkbhlhaaDoor
