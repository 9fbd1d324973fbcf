/- The steps that a stream makes, told exactly. Conditions: as each theorem says. -/
import Derived.Test.YtapjekpjekdlkaaDoorQMeP
import Derived.Test.YtapjekpjekdlkaaDoorQJ34
set_option linter.unusedSimpArgs false
set_option linter.unusedVariables false
namespace Go.Proofs.YtapjekpjekdlkaaDoor
open Go Go.RowKit

theorem ivInfo4 : (Tryd.prog.info? 30).map (fun i => (i.zero, i.size, i.bytes)) = some (some (.agg #[.int .i64 0, .int .i64 0, .int .i64 0, .int .i64 0]), 4, 32) := by kernel_rfl
set_option maxRecDepth 100000 in
theorem back_any (x : I4) (w : World) :
    Calls Tryd.prog 19 #[.agg #[.int .i64 x.a, .int .i64 x.b, .int .i64 x.c, .int .i64 x.d]] w fun e w' =>
      e = .returned (.agg #[.int .i64 (negI x).a, .int .i64 (negI x).b, .int .i64 (negI x).c, .int .i64 (negI x).d]) ∧ Ext w w' := by
  go_enter Tryd.func19, Tryd.ntmps19
  go_wp2
  go_light
  exact bodyPost_ret (v := .agg #[.int .i64 (negI x).a, .int .i64 (negI x).b, .int .i64 (negI x).c, .int .i64 (negI x).d]) (by simp [results, Tryd.results19, go_sem, negI]) rfl ⟨rfl, (by (repeat (with_reducible first | assumption | exact Ext.refl _ | refine Ext.drew ?_ | refine Ext.alloc ?_ _ | refine Ext.setCell ?_ (by simp <;> omega) _ | refine Ext.trans ?_ (by assumption))))⟩
theorem back_f (w : World) : Calls Tryd.prog 19 #[.agg #[.int .i64 (-1), .int .i64 1, .int .i64 0, .int .i64 0]] w fun e w' => e = .returned (.agg #[.int .i64 1, .int .i64 (-1), .int .i64 0, .int .i64 0]) ∧ Ext w w' := by
  have h := back_any ⟨-1, 1, 0, 0⟩ w
  rw [show negI ⟨-1, 1, 0, 0⟩ = ⟨1, -1, 0, 0⟩ by decide +kernel] at h
  exact h
theorem back_t (w : World) : Calls Tryd.prog 19 #[.agg #[.int .i64 (-2), .int .i64 0, .int .i64 1, .int .i64 0]] w fun e w' => e = .returned (.agg #[.int .i64 2, .int .i64 0, .int .i64 (-1), .int .i64 0]) ∧ Ext w w' := by
  have h := back_any ⟨-2, 0, 1, 0⟩ w
  rw [show negI ⟨-2, 0, 1, 0⟩ = ⟨2, 0, -1, 0⟩ by decide +kernel] at h
  exact h
theorem back_w (w : World) : Calls Tryd.prog 19 #[.agg #[.int .i64 (-3), .int .i64 2, .int .i64 0, .int .i64 0]] w fun e w' => e = .returned (.agg #[.int .i64 3, .int .i64 (-2), .int .i64 0, .int .i64 0]) ∧ Ext w w' := by
  have h := back_any ⟨-3, 2, 0, 0⟩ w
  rw [show negI ⟨-3, 2, 0, 0⟩ = ⟨3, -2, 0, 0⟩ by decide +kernel] at h
  exact h
theorem back_o (w : World) : Calls Tryd.prog 19 #[.agg #[.int .i64 1, .int .i64 (-2), .int .i64 1, .int .i64 0]] w fun e w' => e = .returned (.agg #[.int .i64 (-1), .int .i64 2, .int .i64 (-1), .int .i64 0]) ∧ Ext w w' := by
  have h := back_any ⟨1, -2, 1, 0⟩ w
  rw [show negI ⟨1, -2, 1, 0⟩ = ⟨-1, 2, -1, 0⟩ by decide +kernel] at h
  exact h
theorem back_h (w : World) : Calls Tryd.prog 19 #[.agg #[.int .i64 4, .int .i64 (-1), .int .i64 (-1), .int .i64 0]] w fun e w' => e = .returned (.agg #[.int .i64 (-4), .int .i64 1, .int .i64 1, .int .i64 0]) ∧ Ext w w' := by
  have h := back_any ⟨4, -1, -1, 0⟩ w
  rw [show negI ⟨4, -1, -1, 0⟩ = ⟨-4, 1, 1, 0⟩ by decide +kernel] at h
  exact h
/-- The steps of the usual scale. -/
def stX0 : List StepV := [⟨-7, [⟨1, -1, 0, 0⟩]⟩, ⟨-4, [⟨2, 0, -1, 0⟩]⟩, ⟨-2, [⟨3, -2, 0, 0⟩, ⟨-1, 2, -1, 0⟩]⟩, ⟨-1, [⟨-4, 1, 1, 0⟩]⟩, ⟨0, [⟨0, 0, 0, 0⟩]⟩, ⟨1, [⟨4, -1, -1, 0⟩]⟩, ⟨2, [⟨-3, 2, 0, 0⟩, ⟨1, -2, 1, 0⟩]⟩, ⟨4, [⟨-2, 0, 1, 0⟩, ⟨-6, 4, 0, 0⟩]⟩, ⟨7, [⟨-1, 1, 0, 0⟩]⟩]
def stF (L : Src) (a : Nat) : List StepV × Nat :=
  if flF L a 12 then (stX0.set (nxF L (a + 1) 9) (stOne L (a + 2) (stX0.getD (nxF L (a + 1) 9) ⟨0, []⟩)).1, (stOne L (a + 2) (stX0.getD (nxF L (a + 1) 9) ⟨0, []⟩)).2) else (stX0, a + 1)
theorem stF_le (L : Src) (a : Nat) : (stF L a).2 ≤ a + 19 := by
  unfold stF
  split
  · have := stOne_le L (a + 2) (stX0.getD (nxF L (a + 1) 9) ⟨0, []⟩)
    simp only; omega
  · simp
theorem stX0_at : ∀ {i : Nat} {x : StepV}, stX0[i]? = some x → -7 ≤ x.size ∧ x.size ≤ 7 ∧ x.cs.length ≤ 2
  | 0, x, h => by simp [stX0] at h; subst h; simp
  | 1, x, h => by simp [stX0] at h; subst h; simp
  | 2, x, h => by simp [stX0] at h; subst h; simp
  | 3, x, h => by simp [stX0] at h; subst h; simp
  | 4, x, h => by simp [stX0] at h; subst h; simp
  | 5, x, h => by simp [stX0] at h; subst h; simp
  | 6, x, h => by simp [stX0] at h; subst h; simp
  | 7, x, h => by simp [stX0] at h; subst h; simp
  | 8, x, h => by simp [stX0] at h; subst h; simp
  | i + 9, x, h => by simp [stX0] at h
set_option maxRecDepth 100000 in
set_option maxHeartbeats 12800000 in
theorem stepList_det (s a : Nat) (L : Src) (w : World) (hk : a ≤ 900000) (h : StrL w s L a) :
    Calls Tryd.prog 4 #[.pointer (some ⟨s, 0, none⟩)] w fun e w' => ∃ g, e = .returned (.slice (some ⟨g, 0, none⟩) 9 9) ∧ StpF w.heap.size w' (some ⟨g, 0, none⟩) 9 9 (stF L a).1 ∧ StrL w' s L (stF L a).2 ∧ ExtS s w w' := by
  have l0 := h.lt
  have hF : stF L a = if flF L a 12 then (stX0.set (nxF L (a + 1) 9) (stOne L (a + 2) (stX0.getD (nxF L (a + 1) 9) ⟨0, []⟩)).1, (stOne L (a + 2) (stX0.getD (nxF L (a + 1) 9) ⟨0, []⟩)).2) else (stX0, a + 1) := rfl
  generalize stF L a = Q at *
  obtain ⟨X, a2⟩ := Q
  simp only
  replace hF := Lib.hid hF
  have hE0 : Ext w (((((w.alloc (.cells #[.int .i64 (-3), .int .i64 2, .int .i64 0, .int .i64 0] 30)).alloc (.cells #[.int .i64 4, .int .i64 (-1), .int .i64 (-1), .int .i64 0] 30)).alloc (.cells #[.int .i64 (-2), .int .i64 0, .int .i64 1, .int .i64 0] 30)).alloc (.cells #[.int .i64 (-1), .int .i64 1, .int .i64 0, .int .i64 0] 30)).alloc (.cells #[.int .i64 1, .int .i64 (-2), .int .i64 1, .int .i64 0] 30)) := ((((((Ext.refl w).alloc _).alloc _).alloc _).alloc _).alloc _)
  have hBw : Blk (((((w.alloc (.cells #[.int .i64 (-3), .int .i64 2, .int .i64 0, .int .i64 0] 30)).alloc (.cells #[.int .i64 4, .int .i64 (-1), .int .i64 (-1), .int .i64 0] 30)).alloc (.cells #[.int .i64 (-2), .int .i64 0, .int .i64 1, .int .i64 0] 30)).alloc (.cells #[.int .i64 (-1), .int .i64 1, .int .i64 0, .int .i64 0] 30)).alloc (.cells #[.int .i64 1, .int .i64 (-2), .int .i64 1, .int .i64 0] 30)) (w.heap.size) 30 #[.int .i64 (-3), .int .i64 2, .int .i64 0, .int .i64 0] := by
    refine Blk.alloc ?_ _
    refine Blk.alloc ?_ _
    refine Blk.alloc ?_ _
    refine Blk.alloc ?_ _
    exact Blk.new' (by simp)
  have hBh : Blk (((((w.alloc (.cells #[.int .i64 (-3), .int .i64 2, .int .i64 0, .int .i64 0] 30)).alloc (.cells #[.int .i64 4, .int .i64 (-1), .int .i64 (-1), .int .i64 0] 30)).alloc (.cells #[.int .i64 (-2), .int .i64 0, .int .i64 1, .int .i64 0] 30)).alloc (.cells #[.int .i64 (-1), .int .i64 1, .int .i64 0, .int .i64 0] 30)).alloc (.cells #[.int .i64 1, .int .i64 (-2), .int .i64 1, .int .i64 0] 30)) (w.heap.size + 1) 30 #[.int .i64 4, .int .i64 (-1), .int .i64 (-1), .int .i64 0] := by
    refine Blk.alloc ?_ _
    refine Blk.alloc ?_ _
    refine Blk.alloc ?_ _
    exact Blk.new' (by simp)
  have hBt : Blk (((((w.alloc (.cells #[.int .i64 (-3), .int .i64 2, .int .i64 0, .int .i64 0] 30)).alloc (.cells #[.int .i64 4, .int .i64 (-1), .int .i64 (-1), .int .i64 0] 30)).alloc (.cells #[.int .i64 (-2), .int .i64 0, .int .i64 1, .int .i64 0] 30)).alloc (.cells #[.int .i64 (-1), .int .i64 1, .int .i64 0, .int .i64 0] 30)).alloc (.cells #[.int .i64 1, .int .i64 (-2), .int .i64 1, .int .i64 0] 30)) (w.heap.size + 1 + 1) 30 #[.int .i64 (-2), .int .i64 0, .int .i64 1, .int .i64 0] := by
    refine Blk.alloc ?_ _
    refine Blk.alloc ?_ _
    exact Blk.new' (by simp)
  have hBf : Blk (((((w.alloc (.cells #[.int .i64 (-3), .int .i64 2, .int .i64 0, .int .i64 0] 30)).alloc (.cells #[.int .i64 4, .int .i64 (-1), .int .i64 (-1), .int .i64 0] 30)).alloc (.cells #[.int .i64 (-2), .int .i64 0, .int .i64 1, .int .i64 0] 30)).alloc (.cells #[.int .i64 (-1), .int .i64 1, .int .i64 0, .int .i64 0] 30)).alloc (.cells #[.int .i64 1, .int .i64 (-2), .int .i64 1, .int .i64 0] 30)) (w.heap.size + 1 + 1 + 1) 30 #[.int .i64 (-1), .int .i64 1, .int .i64 0, .int .i64 0] := by
    refine Blk.alloc ?_ _
    exact Blk.new' (by simp)
  have hBo : Blk (((((w.alloc (.cells #[.int .i64 (-3), .int .i64 2, .int .i64 0, .int .i64 0] 30)).alloc (.cells #[.int .i64 4, .int .i64 (-1), .int .i64 (-1), .int .i64 0] 30)).alloc (.cells #[.int .i64 (-2), .int .i64 0, .int .i64 1, .int .i64 0] 30)).alloc (.cells #[.int .i64 (-1), .int .i64 1, .int .i64 0, .int .i64 0] 30)).alloc (.cells #[.int .i64 1, .int .i64 (-2), .int .i64 1, .int .i64 0] 30)) (w.heap.size + 1 + 1 + 1 + 1) 30 #[.int .i64 1, .int .i64 (-2), .int .i64 1, .int .i64 0] := by
    skip
    exact Blk.new' (by simp)
  go_enter Tryd.func4, Tryd.ntmps4
  go_upto_region 4 with fail
  have hS0 := h.ext hE0
  generalize ((((w.alloc (.cells #[.int .i64 (-3), .int .i64 2, .int .i64 0, .int .i64 0] 30)).alloc (.cells #[.int .i64 4, .int .i64 (-1), .int .i64 (-1), .int .i64 0] 30)).alloc (.cells #[.int .i64 (-2), .int .i64 0, .int .i64 1, .int .i64 0] 30)).alloc (.cells #[.int .i64 (-1), .int .i64 1, .int .i64 0, .int .i64 0] 30)).alloc (.cells #[.int .i64 1, .int .i64 (-2), .int .i64 1, .int .i64 0] 30) = W at *
  refine wp_region_facts [] [([], false, false), ([], false, false), ([0, 1], false, false), ([0, 1, 2], false, true), ([0, 1, 2, 3], false, false), ([], false, false), ([], false, false), ([5, 6], false, false), ([5, 6, 7], false, true), ([5, 6, 7, 8], false, false), ([], false, false), ([], false, false), ([10, 11], false, false), ([], false, false), ([], false, false), ([13, 14], false, false), ([10, 11, 12, 13, 14, 15], false, true), ([10, 11, 12, 13, 14, 15, 16], false, false), ([], false, false), ([], false, false), ([18, 19], false, false), ([18, 19, 20], false, true), ([18, 19, 20, 21], false, false), ([], false, false), ([23], false, true), ([23, 24], false, false), ([], false, false), ([26], false, true), ([26, 27], false, false), ([], false, false), ([], false, false), ([29, 30], false, true), ([29, 30, 31], false, false), ([], false, false), ([], false, false), ([33, 34], false, true), ([33, 34, 35], false, false), ([], false, false), ([37], false, true), ([37, 38], false, false), ([0, 1, 2, 3, 4, 5, 6, 7, 8, 9, 10, 11, 12, 13, 14, 15, 16, 17, 18, 19, 20, 21, 22, 23, 24, 25, 26, 27, 28, 29, 30, 31, 32, 33, 34, 35, 36, 37, 38, 39], false, true)] (Ext) Ext (fun _ => True) (by kernel_rfl) (by kernel_rfl) Ext.refl (fun _ _ _ => Ext.trans) (fun _ _ h => h) (fun _ _ h => h.size) (fun _ _ h _ => h) trivial ?_
  dsimp only [List.length_cons, List.length_nil, List.drop_succ_cons, List.drop_zero, List.drop_nil]
  refine fac_quiet 0 rfl rfl rfl (fun _ _ h _ => h) rfl rfl ?_
  apply Exists.intro
  refine ⟨fun sv w' hw' hfa => ?_, ?_⟩
  · refine ⟨rfl, ?_⟩
    simp only [putsL]
    change quietTo _ _ _ _ (Sem.run _ (execOp (Act.eval _) _) _)
    try simp only [Act.put, List.setIfInBounds_toArray, List.set_cons_succ, List.set_cons_zero]
    simp [go_sem, quietTo, Ext.refl]
    all_goals first
      | rfl
  refine fac_quiet 1 rfl rfl rfl (fun _ _ h _ => h) rfl rfl ?_
  apply Exists.intro
  refine ⟨fun sv w' hw' hfa => ?_, ?_⟩
  · have hk9 := (Ext.refl W).drew.trans hw'; obtain ⟨qw, -⟩ := (hBw.ext hk9).walk; obtain ⟨qh, -⟩ := (hBh.ext hk9).walk; obtain ⟨qt, -⟩ := (hBt.ext hk9).walk; obtain ⟨qf, -⟩ := (hBf.ext hk9).walk; obtain ⟨qo, -⟩ := (hBo.ext hk9).walk
    refine ⟨rfl, ?_⟩
    simp only [putsL]
    change quietTo _ _ _ _ (Sem.run _ (execOp (Act.eval _) _) _)
    try simp only [Act.put, List.setIfInBounds_toArray, List.set_cons_succ, List.set_cons_zero]
    simp [go_sem, quietTo, Ext.refl, ↓IntWalk.iteOmega, qf]
    all_goals try simp (disch := omega) only [IntWalk.i64_in]
    all_goals first
      | rfl
  refine fac_quiet 2 rfl rfl rfl (fun _ _ h _ => h) rfl rfl ?_
  apply Exists.intro
  refine ⟨fun sv w' hw' hfa => ?_, ?_⟩
  · obtain ⟨f0, f1, -⟩ := hfa
    replace f0 : sv 0 = _ := f0
    try dsimp only at f0
    replace f1 : sv 1 = _ := f1
    try dsimp only at f1
    have hk9 := (Ext.refl W).drew.trans hw'; obtain ⟨qw, -⟩ := (hBw.ext hk9).walk; obtain ⟨qh, -⟩ := (hBh.ext hk9).walk; obtain ⟨qt, -⟩ := (hBt.ext hk9).walk; obtain ⟨qf, -⟩ := (hBf.ext hk9).walk; obtain ⟨qo, -⟩ := (hBo.ext hk9).walk
    refine ⟨rfl, ?_⟩
    simp only [putsL]
    change quietTo _ _ _ _ (Sem.run _ (execOp (Act.eval (Act.put (Act.put _ (some 17) (sv 1)) (some 16) (sv 0))) _) _)
    try simp only [Act.put, List.setIfInBounds_toArray, List.set_cons_succ, List.set_cons_zero]
    simp [go_sem, quietTo, Ext.refl, ↓IntWalk.iteOmega, f0, f1]
    all_goals try simp (disch := omega) only [IntWalk.i64_in]
    all_goals first
      | rfl
      | (exact back_f _)
  refine fac_row 3 rfl rfl rfl (fun _ _ h _ => h) (fun _ _ h => h.size) (fun _ _ _ _ _ he _ hb => hb.ext he) ?_
  apply Exists.intro
  apply Exists.intro
  apply Exists.intro
  apply Exists.intro
  refine ⟨fun sv w' hw' hfa => ?_, ?_⟩
  · obtain ⟨_, _, f2, -⟩ := hfa
    replace f2 : sv 2 = _ := f2
    try dsimp only at f2
    refine ⟨rfl, ?_⟩
    simp only [putsL]
    change rowTo _ _ _ _ _ (Sem.run _ (execOp (Act.eval (Act.put (Act.put (Act.put _ (some 18) (sv 2)) (some 17) (sv 1)) (some 16) (sv 0))) _) _)
    try simp only [Act.put, List.setIfInBounds_toArray, List.set_cons_succ, List.set_cons_zero]
    simp [go_sem, rowTo, Ext.refl, f2]
    all_goals try simp (disch := omega) only [IntWalk.i64_in]
    all_goals first
      | rfl
      | exact ⟨rfl, rfl⟩
      | exact ⟨⟨rfl, rfl⟩, rfl⟩
  refine fac_via 4 rfl rfl 3 (fun g => .slice (some ⟨g, 0, none⟩) 1 1) (fun _ _ h => by simpa using h) (by decide) rfl (fun _ _ h _ => h) ?_ ?_
  · intro sv w' hfa
    obtain ⟨f0, f1, f2, f3, -⟩ := hfa
    replace f0 : sv 0 = _ := f0
    try dsimp only at f0
    replace f1 : sv 1 = _ := f1
    try dsimp only at f1
    replace f2 : sv 2 = _ := f2
    try dsimp only at f2
    obtain ⟨g3, f3, l3, b3⟩ := f3
    replace f3 : sv 3 = _ := f3
    obtain ⟨p3, q3⟩ := b3.walk
    exact ⟨_, f3⟩
  apply Exists.intro
  refine ⟨fun sv w' g hw' hfa hgi => ?_, ?_⟩
  · obtain ⟨f0, f1, f2, f3, -⟩ := hfa
    replace f0 : sv 0 = _ := f0
    try dsimp only at f0
    replace f1 : sv 1 = _ := f1
    try dsimp only at f1
    replace f2 : sv 2 = _ := f2
    try dsimp only at f2
    obtain ⟨g3, f3, l3, b3⟩ := f3
    replace f3 : sv 3 = _ := f3
    obtain ⟨p3, q3⟩ := b3.walk
    have hgg := f3.symm.trans hgi
    simp only [Value.slice.injEq, Value.pointer.injEq, Option.some.injEq, Addr.mk.injEq, and_true] at hgg
    subst hgg
    have hk9 := (Ext.refl W).drew.trans hw'; obtain ⟨qw, -⟩ := (hBw.ext hk9).walk; obtain ⟨qh, -⟩ := (hBh.ext hk9).walk; obtain ⟨qt, -⟩ := (hBt.ext hk9).walk; obtain ⟨qf, -⟩ := (hBf.ext hk9).walk; obtain ⟨qo, -⟩ := (hBo.ext hk9).walk
    refine ⟨rfl, ?_⟩
    simp only [putsL]
    change quietTo _ _ _ _ (Sem.run _ (execOp (Act.eval (Act.put (Act.put (Act.put (Act.put _ (some 19) (sv 3)) (some 18) (sv 2)) (some 17) (sv 1)) (some 16) (sv 0))) _) _)
    try simp only [Act.put, List.setIfInBounds_toArray, List.set_cons_succ, List.set_cons_zero]
    simp [go_sem, quietTo, Ext.refl, f3]
    all_goals try simp (disch := omega) only [IntWalk.i64_in]
    all_goals first
      | rfl
  refine fac_quiet 5 rfl rfl rfl (fun _ _ h _ => h) rfl rfl ?_
  apply Exists.intro
  refine ⟨fun sv w' hw' hfa => ?_, ?_⟩
  · refine ⟨rfl, ?_⟩
    simp only [putsL]
    change quietTo _ _ _ _ (Sem.run _ (execOp (Act.eval _) _) _)
    try simp only [Act.put, List.setIfInBounds_toArray, List.set_cons_succ, List.set_cons_zero]
    simp [go_sem, quietTo, Ext.refl]
    all_goals first
      | rfl
  refine fac_quiet 6 rfl rfl rfl (fun _ _ h _ => h) rfl rfl ?_
  apply Exists.intro
  refine ⟨fun sv w' hw' hfa => ?_, ?_⟩
  · have hk9 := (Ext.refl W).drew.trans hw'; obtain ⟨qw, -⟩ := (hBw.ext hk9).walk; obtain ⟨qh, -⟩ := (hBh.ext hk9).walk; obtain ⟨qt, -⟩ := (hBt.ext hk9).walk; obtain ⟨qf, -⟩ := (hBf.ext hk9).walk; obtain ⟨qo, -⟩ := (hBo.ext hk9).walk
    refine ⟨rfl, ?_⟩
    simp only [putsL]
    change quietTo _ _ _ _ (Sem.run _ (execOp (Act.eval _) _) _)
    try simp only [Act.put, List.setIfInBounds_toArray, List.set_cons_succ, List.set_cons_zero]
    simp [go_sem, quietTo, Ext.refl, ↓IntWalk.iteOmega, qt]
    all_goals try simp (disch := omega) only [IntWalk.i64_in]
    all_goals first
      | rfl
  refine fac_quiet 7 rfl rfl rfl (fun _ _ h _ => h) rfl rfl ?_
  apply Exists.intro
  refine ⟨fun sv w' hw' hfa => ?_, ?_⟩
  · obtain ⟨f5, f6, -⟩ := hfa
    replace f5 : sv 5 = _ := f5
    try dsimp only at f5
    replace f6 : sv 6 = _ := f6
    try dsimp only at f6
    have hk9 := (Ext.refl W).drew.trans hw'; obtain ⟨qw, -⟩ := (hBw.ext hk9).walk; obtain ⟨qh, -⟩ := (hBh.ext hk9).walk; obtain ⟨qt, -⟩ := (hBt.ext hk9).walk; obtain ⟨qf, -⟩ := (hBf.ext hk9).walk; obtain ⟨qo, -⟩ := (hBo.ext hk9).walk
    refine ⟨rfl, ?_⟩
    simp only [putsL]
    change quietTo _ _ _ _ (Sem.run _ (execOp (Act.eval (Act.put (Act.put _ (some 22) (sv 6)) (some 21) (sv 5))) _) _)
    try simp only [Act.put, List.setIfInBounds_toArray, List.set_cons_succ, List.set_cons_zero]
    simp [go_sem, quietTo, Ext.refl, ↓IntWalk.iteOmega, f5, f6]
    all_goals try simp (disch := omega) only [IntWalk.i64_in]
    all_goals first
      | rfl
      | (exact back_t _)
  refine fac_row 8 rfl rfl rfl (fun _ _ h _ => h) (fun _ _ h => h.size) (fun _ _ _ _ _ he _ hb => hb.ext he) ?_
  apply Exists.intro
  apply Exists.intro
  apply Exists.intro
  apply Exists.intro
  refine ⟨fun sv w' hw' hfa => ?_, ?_⟩
  · obtain ⟨_, _, f7, -⟩ := hfa
    replace f7 : sv 7 = _ := f7
    try dsimp only at f7
    refine ⟨rfl, ?_⟩
    simp only [putsL]
    change rowTo _ _ _ _ _ (Sem.run _ (execOp (Act.eval (Act.put (Act.put (Act.put _ (some 23) (sv 7)) (some 22) (sv 6)) (some 21) (sv 5))) _) _)
    try simp only [Act.put, List.setIfInBounds_toArray, List.set_cons_succ, List.set_cons_zero]
    simp [go_sem, rowTo, Ext.refl, f7]
    all_goals try simp (disch := omega) only [IntWalk.i64_in]
    all_goals first
      | rfl
      | exact ⟨rfl, rfl⟩
      | exact ⟨⟨rfl, rfl⟩, rfl⟩
  refine fac_via 9 rfl rfl 8 (fun g => .slice (some ⟨g, 0, none⟩) 1 1) (fun _ _ h => by simpa using h) (by decide) rfl (fun _ _ h _ => h) ?_ ?_
  · intro sv w' hfa
    obtain ⟨f5, f6, f7, f8, -⟩ := hfa
    replace f5 : sv 5 = _ := f5
    try dsimp only at f5
    replace f6 : sv 6 = _ := f6
    try dsimp only at f6
    replace f7 : sv 7 = _ := f7
    try dsimp only at f7
    obtain ⟨g8, f8, l8, b8⟩ := f8
    replace f8 : sv 8 = _ := f8
    obtain ⟨p8, q8⟩ := b8.walk
    exact ⟨_, f8⟩
  apply Exists.intro
  refine ⟨fun sv w' g hw' hfa hgi => ?_, ?_⟩
  · obtain ⟨f5, f6, f7, f8, -⟩ := hfa
    replace f5 : sv 5 = _ := f5
    try dsimp only at f5
    replace f6 : sv 6 = _ := f6
    try dsimp only at f6
    replace f7 : sv 7 = _ := f7
    try dsimp only at f7
    obtain ⟨g8, f8, l8, b8⟩ := f8
    replace f8 : sv 8 = _ := f8
    obtain ⟨p8, q8⟩ := b8.walk
    have hgg := f8.symm.trans hgi
    simp only [Value.slice.injEq, Value.pointer.injEq, Option.some.injEq, Addr.mk.injEq, and_true] at hgg
    subst hgg
    have hk9 := (Ext.refl W).drew.trans hw'; obtain ⟨qw, -⟩ := (hBw.ext hk9).walk; obtain ⟨qh, -⟩ := (hBh.ext hk9).walk; obtain ⟨qt, -⟩ := (hBt.ext hk9).walk; obtain ⟨qf, -⟩ := (hBf.ext hk9).walk; obtain ⟨qo, -⟩ := (hBo.ext hk9).walk
    refine ⟨rfl, ?_⟩
    simp only [putsL]
    change quietTo _ _ _ _ (Sem.run _ (execOp (Act.eval (Act.put (Act.put (Act.put (Act.put _ (some 24) (sv 8)) (some 23) (sv 7)) (some 22) (sv 6)) (some 21) (sv 5))) _) _)
    try simp only [Act.put, List.setIfInBounds_toArray, List.set_cons_succ, List.set_cons_zero]
    simp [go_sem, quietTo, Ext.refl, f8]
    all_goals try simp (disch := omega) only [IntWalk.i64_in]
    all_goals first
      | rfl
  refine fac_quiet 10 rfl rfl rfl (fun _ _ h _ => h) rfl rfl ?_
  apply Exists.intro
  refine ⟨fun sv w' hw' hfa => ?_, ?_⟩
  · refine ⟨rfl, ?_⟩
    simp only [putsL]
    change quietTo _ _ _ _ (Sem.run _ (execOp (Act.eval _) _) _)
    try simp only [Act.put, List.setIfInBounds_toArray, List.set_cons_succ, List.set_cons_zero]
    simp [go_sem, quietTo, Ext.refl]
    all_goals first
      | rfl
  refine fac_quiet 11 rfl rfl rfl (fun _ _ h _ => h) rfl rfl ?_
  apply Exists.intro
  refine ⟨fun sv w' hw' hfa => ?_, ?_⟩
  · have hk9 := (Ext.refl W).drew.trans hw'; obtain ⟨qw, -⟩ := (hBw.ext hk9).walk; obtain ⟨qh, -⟩ := (hBh.ext hk9).walk; obtain ⟨qt, -⟩ := (hBt.ext hk9).walk; obtain ⟨qf, -⟩ := (hBf.ext hk9).walk; obtain ⟨qo, -⟩ := (hBo.ext hk9).walk
    refine ⟨rfl, ?_⟩
    simp only [putsL]
    change quietTo _ _ _ _ (Sem.run _ (execOp (Act.eval _) _) _)
    try simp only [Act.put, List.setIfInBounds_toArray, List.set_cons_succ, List.set_cons_zero]
    simp [go_sem, quietTo, Ext.refl, ↓IntWalk.iteOmega, qw]
    all_goals try simp (disch := omega) only [IntWalk.i64_in]
    all_goals first
      | rfl
  refine fac_quiet 12 rfl rfl rfl (fun _ _ h _ => h) rfl rfl ?_
  apply Exists.intro
  refine ⟨fun sv w' hw' hfa => ?_, ?_⟩
  · obtain ⟨f10, f11, -⟩ := hfa
    replace f10 : sv 10 = _ := f10
    try dsimp only at f10
    replace f11 : sv 11 = _ := f11
    try dsimp only at f11
    have hk9 := (Ext.refl W).drew.trans hw'; obtain ⟨qw, -⟩ := (hBw.ext hk9).walk; obtain ⟨qh, -⟩ := (hBh.ext hk9).walk; obtain ⟨qt, -⟩ := (hBt.ext hk9).walk; obtain ⟨qf, -⟩ := (hBf.ext hk9).walk; obtain ⟨qo, -⟩ := (hBo.ext hk9).walk
    refine ⟨rfl, ?_⟩
    simp only [putsL]
    change quietTo _ _ _ _ (Sem.run _ (execOp (Act.eval (Act.put (Act.put _ (some 27) (sv 11)) (some 26) (sv 10))) _) _)
    try simp only [Act.put, List.setIfInBounds_toArray, List.set_cons_succ, List.set_cons_zero]
    simp [go_sem, quietTo, Ext.refl, ↓IntWalk.iteOmega, f10, f11]
    all_goals try simp (disch := omega) only [IntWalk.i64_in]
    all_goals first
      | rfl
      | (exact back_w _)
  refine fac_quiet 13 rfl rfl rfl (fun _ _ h _ => h) rfl rfl ?_
  apply Exists.intro
  refine ⟨fun sv w' hw' hfa => ?_, ?_⟩
  · refine ⟨rfl, ?_⟩
    simp only [putsL]
    change quietTo _ _ _ _ (Sem.run _ (execOp (Act.eval _) _) _)
    try simp only [Act.put, List.setIfInBounds_toArray, List.set_cons_succ, List.set_cons_zero]
    simp [go_sem, quietTo, Ext.refl]
    all_goals first
      | rfl
  refine fac_quiet 14 rfl rfl rfl (fun _ _ h _ => h) rfl rfl ?_
  apply Exists.intro
  refine ⟨fun sv w' hw' hfa => ?_, ?_⟩
  · have hk9 := (Ext.refl W).drew.trans hw'; obtain ⟨qw, -⟩ := (hBw.ext hk9).walk; obtain ⟨qh, -⟩ := (hBh.ext hk9).walk; obtain ⟨qt, -⟩ := (hBt.ext hk9).walk; obtain ⟨qf, -⟩ := (hBf.ext hk9).walk; obtain ⟨qo, -⟩ := (hBo.ext hk9).walk
    refine ⟨rfl, ?_⟩
    simp only [putsL]
    change quietTo _ _ _ _ (Sem.run _ (execOp (Act.eval _) _) _)
    try simp only [Act.put, List.setIfInBounds_toArray, List.set_cons_succ, List.set_cons_zero]
    simp [go_sem, quietTo, Ext.refl, ↓IntWalk.iteOmega, qo]
    all_goals try simp (disch := omega) only [IntWalk.i64_in]
    all_goals first
      | rfl
  refine fac_quiet 15 rfl rfl rfl (fun _ _ h _ => h) rfl rfl ?_
  apply Exists.intro
  refine ⟨fun sv w' hw' hfa => ?_, ?_⟩
  · obtain ⟨f13, f14, -⟩ := hfa
    replace f13 : sv 13 = _ := f13
    try dsimp only at f13
    replace f14 : sv 14 = _ := f14
    try dsimp only at f14
    have hk9 := (Ext.refl W).drew.trans hw'; obtain ⟨qw, -⟩ := (hBw.ext hk9).walk; obtain ⟨qh, -⟩ := (hBh.ext hk9).walk; obtain ⟨qt, -⟩ := (hBt.ext hk9).walk; obtain ⟨qf, -⟩ := (hBf.ext hk9).walk; obtain ⟨qo, -⟩ := (hBo.ext hk9).walk
    refine ⟨rfl, ?_⟩
    simp only [putsL]
    change quietTo _ _ _ _ (Sem.run _ (execOp (Act.eval (Act.put (Act.put _ (some 30) (sv 14)) (some 29) (sv 13))) _) _)
    try simp only [Act.put, List.setIfInBounds_toArray, List.set_cons_succ, List.set_cons_zero]
    simp [go_sem, quietTo, Ext.refl, ↓IntWalk.iteOmega, f13, f14]
    all_goals try simp (disch := omega) only [IntWalk.i64_in]
    all_goals first
      | rfl
      | (exact back_o _)
  refine fac_row 16 rfl rfl rfl (fun _ _ h _ => h) (fun _ _ h => h.size) (fun _ _ _ _ _ he _ hb => hb.ext he) ?_
  apply Exists.intro
  apply Exists.intro
  apply Exists.intro
  apply Exists.intro
  refine ⟨fun sv w' hw' hfa => ?_, ?_⟩
  · obtain ⟨_, _, f12, _, _, f15, -⟩ := hfa
    replace f12 : sv 12 = _ := f12
    try dsimp only at f12
    replace f15 : sv 15 = _ := f15
    try dsimp only at f15
    refine ⟨rfl, ?_⟩
    simp only [putsL]
    change rowTo _ _ _ _ _ (Sem.run _ (execOp (Act.eval (Act.put (Act.put (Act.put (Act.put (Act.put (Act.put _ (some 31) (sv 15)) (some 30) (sv 14)) (some 29) (sv 13)) (some 28) (sv 12)) (some 27) (sv 11)) (some 26) (sv 10))) _) _)
    try simp only [Act.put, List.setIfInBounds_toArray, List.set_cons_succ, List.set_cons_zero]
    simp [go_sem, rowTo, Ext.refl, f12, f15]
    all_goals try simp (disch := omega) only [IntWalk.i64_in]
    all_goals first
      | rfl
      | exact ⟨rfl, rfl⟩
      | exact ⟨⟨rfl, rfl⟩, rfl⟩
  refine fac_via 17 rfl rfl 16 (fun g => .slice (some ⟨g, 0, none⟩) 2 2) (fun _ _ h => by simpa using h) (by decide) rfl (fun _ _ h _ => h) ?_ ?_
  · intro sv w' hfa
    obtain ⟨f10, f11, f12, f13, f14, f15, f16, -⟩ := hfa
    replace f10 : sv 10 = _ := f10
    try dsimp only at f10
    replace f11 : sv 11 = _ := f11
    try dsimp only at f11
    replace f12 : sv 12 = _ := f12
    try dsimp only at f12
    replace f13 : sv 13 = _ := f13
    try dsimp only at f13
    replace f14 : sv 14 = _ := f14
    try dsimp only at f14
    replace f15 : sv 15 = _ := f15
    try dsimp only at f15
    obtain ⟨g16, f16, l16, b16⟩ := f16
    replace f16 : sv 16 = _ := f16
    obtain ⟨p16, q16⟩ := b16.walk
    exact ⟨_, f16⟩
  apply Exists.intro
  refine ⟨fun sv w' g hw' hfa hgi => ?_, ?_⟩
  · obtain ⟨f10, f11, f12, f13, f14, f15, f16, -⟩ := hfa
    replace f10 : sv 10 = _ := f10
    try dsimp only at f10
    replace f11 : sv 11 = _ := f11
    try dsimp only at f11
    replace f12 : sv 12 = _ := f12
    try dsimp only at f12
    replace f13 : sv 13 = _ := f13
    try dsimp only at f13
    replace f14 : sv 14 = _ := f14
    try dsimp only at f14
    replace f15 : sv 15 = _ := f15
    try dsimp only at f15
    obtain ⟨g16, f16, l16, b16⟩ := f16
    replace f16 : sv 16 = _ := f16
    obtain ⟨p16, q16⟩ := b16.walk
    have hgg := f16.symm.trans hgi
    simp only [Value.slice.injEq, Value.pointer.injEq, Option.some.injEq, Addr.mk.injEq, and_true] at hgg
    subst hgg
    have hk9 := (Ext.refl W).drew.trans hw'; obtain ⟨qw, -⟩ := (hBw.ext hk9).walk; obtain ⟨qh, -⟩ := (hBh.ext hk9).walk; obtain ⟨qt, -⟩ := (hBt.ext hk9).walk; obtain ⟨qf, -⟩ := (hBf.ext hk9).walk; obtain ⟨qo, -⟩ := (hBo.ext hk9).walk
    refine ⟨rfl, ?_⟩
    simp only [putsL]
    change quietTo _ _ _ _ (Sem.run _ (execOp (Act.eval (Act.put (Act.put (Act.put (Act.put (Act.put (Act.put (Act.put _ (some 32) (sv 16)) (some 31) (sv 15)) (some 30) (sv 14)) (some 29) (sv 13)) (some 28) (sv 12)) (some 27) (sv 11)) (some 26) (sv 10))) _) _)
    try simp only [Act.put, List.setIfInBounds_toArray, List.set_cons_succ, List.set_cons_zero]
    simp [go_sem, quietTo, Ext.refl, f16]
    all_goals try simp (disch := omega) only [IntWalk.i64_in]
    all_goals first
      | rfl
  refine fac_quiet 18 rfl rfl rfl (fun _ _ h _ => h) rfl rfl ?_
  apply Exists.intro
  refine ⟨fun sv w' hw' hfa => ?_, ?_⟩
  · refine ⟨rfl, ?_⟩
    simp only [putsL]
    change quietTo _ _ _ _ (Sem.run _ (execOp (Act.eval _) _) _)
    try simp only [Act.put, List.setIfInBounds_toArray, List.set_cons_succ, List.set_cons_zero]
    simp [go_sem, quietTo, Ext.refl]
    all_goals first
      | rfl
  refine fac_quiet 19 rfl rfl rfl (fun _ _ h _ => h) rfl rfl ?_
  apply Exists.intro
  refine ⟨fun sv w' hw' hfa => ?_, ?_⟩
  · have hk9 := (Ext.refl W).drew.trans hw'; obtain ⟨qw, -⟩ := (hBw.ext hk9).walk; obtain ⟨qh, -⟩ := (hBh.ext hk9).walk; obtain ⟨qt, -⟩ := (hBt.ext hk9).walk; obtain ⟨qf, -⟩ := (hBf.ext hk9).walk; obtain ⟨qo, -⟩ := (hBo.ext hk9).walk
    refine ⟨rfl, ?_⟩
    simp only [putsL]
    change quietTo _ _ _ _ (Sem.run _ (execOp (Act.eval _) _) _)
    try simp only [Act.put, List.setIfInBounds_toArray, List.set_cons_succ, List.set_cons_zero]
    simp [go_sem, quietTo, Ext.refl, ↓IntWalk.iteOmega, qh]
    all_goals try simp (disch := omega) only [IntWalk.i64_in]
    all_goals first
      | rfl
  refine fac_quiet 20 rfl rfl rfl (fun _ _ h _ => h) rfl rfl ?_
  apply Exists.intro
  refine ⟨fun sv w' hw' hfa => ?_, ?_⟩
  · obtain ⟨f18, f19, -⟩ := hfa
    replace f18 : sv 18 = _ := f18
    try dsimp only at f18
    replace f19 : sv 19 = _ := f19
    try dsimp only at f19
    have hk9 := (Ext.refl W).drew.trans hw'; obtain ⟨qw, -⟩ := (hBw.ext hk9).walk; obtain ⟨qh, -⟩ := (hBh.ext hk9).walk; obtain ⟨qt, -⟩ := (hBt.ext hk9).walk; obtain ⟨qf, -⟩ := (hBf.ext hk9).walk; obtain ⟨qo, -⟩ := (hBo.ext hk9).walk
    refine ⟨rfl, ?_⟩
    simp only [putsL]
    change quietTo _ _ _ _ (Sem.run _ (execOp (Act.eval (Act.put (Act.put _ (some 35) (sv 19)) (some 34) (sv 18))) _) _)
    try simp only [Act.put, List.setIfInBounds_toArray, List.set_cons_succ, List.set_cons_zero]
    simp [go_sem, quietTo, Ext.refl, ↓IntWalk.iteOmega, f18, f19]
    all_goals try simp (disch := omega) only [IntWalk.i64_in]
    all_goals first
      | rfl
      | (exact back_h _)
  refine fac_row 21 rfl rfl rfl (fun _ _ h _ => h) (fun _ _ h => h.size) (fun _ _ _ _ _ he _ hb => hb.ext he) ?_
  apply Exists.intro
  apply Exists.intro
  apply Exists.intro
  apply Exists.intro
  refine ⟨fun sv w' hw' hfa => ?_, ?_⟩
  · obtain ⟨_, _, f20, -⟩ := hfa
    replace f20 : sv 20 = _ := f20
    try dsimp only at f20
    refine ⟨rfl, ?_⟩
    simp only [putsL]
    change rowTo _ _ _ _ _ (Sem.run _ (execOp (Act.eval (Act.put (Act.put (Act.put _ (some 36) (sv 20)) (some 35) (sv 19)) (some 34) (sv 18))) _) _)
    try simp only [Act.put, List.setIfInBounds_toArray, List.set_cons_succ, List.set_cons_zero]
    simp [go_sem, rowTo, Ext.refl, f20]
    all_goals try simp (disch := omega) only [IntWalk.i64_in]
    all_goals first
      | rfl
      | exact ⟨rfl, rfl⟩
      | exact ⟨⟨rfl, rfl⟩, rfl⟩
  refine fac_via 22 rfl rfl 21 (fun g => .slice (some ⟨g, 0, none⟩) 1 1) (fun _ _ h => by simpa using h) (by decide) rfl (fun _ _ h _ => h) ?_ ?_
  · intro sv w' hfa
    obtain ⟨f18, f19, f20, f21, -⟩ := hfa
    replace f18 : sv 18 = _ := f18
    try dsimp only at f18
    replace f19 : sv 19 = _ := f19
    try dsimp only at f19
    replace f20 : sv 20 = _ := f20
    try dsimp only at f20
    obtain ⟨g21, f21, l21, b21⟩ := f21
    replace f21 : sv 21 = _ := f21
    obtain ⟨p21, q21⟩ := b21.walk
    exact ⟨_, f21⟩
  apply Exists.intro
  refine ⟨fun sv w' g hw' hfa hgi => ?_, ?_⟩
  · obtain ⟨f18, f19, f20, f21, -⟩ := hfa
    replace f18 : sv 18 = _ := f18
    try dsimp only at f18
    replace f19 : sv 19 = _ := f19
    try dsimp only at f19
    replace f20 : sv 20 = _ := f20
    try dsimp only at f20
    obtain ⟨g21, f21, l21, b21⟩ := f21
    replace f21 : sv 21 = _ := f21
    obtain ⟨p21, q21⟩ := b21.walk
    have hgg := f21.symm.trans hgi
    simp only [Value.slice.injEq, Value.pointer.injEq, Option.some.injEq, Addr.mk.injEq, and_true] at hgg
    subst hgg
    have hk9 := (Ext.refl W).drew.trans hw'; obtain ⟨qw, -⟩ := (hBw.ext hk9).walk; obtain ⟨qh, -⟩ := (hBh.ext hk9).walk; obtain ⟨qt, -⟩ := (hBt.ext hk9).walk; obtain ⟨qf, -⟩ := (hBf.ext hk9).walk; obtain ⟨qo, -⟩ := (hBo.ext hk9).walk
    refine ⟨rfl, ?_⟩
    simp only [putsL]
    change quietTo _ _ _ _ (Sem.run _ (execOp (Act.eval (Act.put (Act.put (Act.put (Act.put _ (some 37) (sv 21)) (some 36) (sv 20)) (some 35) (sv 19)) (some 34) (sv 18))) _) _)
    try simp only [Act.put, List.setIfInBounds_toArray, List.set_cons_succ, List.set_cons_zero]
    simp [go_sem, quietTo, Ext.refl, f21]
    all_goals try simp (disch := omega) only [IntWalk.i64_in]
    all_goals first
      | rfl
  refine fac_quiet 23 rfl rfl rfl (fun _ _ h _ => h) rfl rfl ?_
  apply Exists.intro
  refine ⟨fun sv w' hw' hfa => ?_, ?_⟩
  · refine ⟨rfl, ?_⟩
    simp only [putsL]
    change quietTo _ _ _ _ (Sem.run _ (execOp (Act.eval _) _) _)
    try simp only [Act.put, List.setIfInBounds_toArray, List.set_cons_succ, List.set_cons_zero]
    simp [go_sem, quietTo, Ext.refl]
    all_goals first
      | rfl
  refine fac_row 24 rfl rfl rfl (fun _ _ h _ => h) (fun _ _ h => h.size) (fun _ _ _ _ _ he _ hb => hb.ext he) ?_
  apply Exists.intro
  apply Exists.intro
  apply Exists.intro
  apply Exists.intro
  refine ⟨fun sv w' hw' hfa => ?_, ?_⟩
  · obtain ⟨f23, -⟩ := hfa
    replace f23 : sv 23 = _ := f23
    try dsimp only at f23
    refine ⟨rfl, ?_⟩
    simp only [putsL]
    change rowTo _ _ _ _ _ (Sem.run _ (execOp (Act.eval (Act.put _ (some 39) (sv 23))) _) _)
    try simp only [Act.put, List.setIfInBounds_toArray, List.set_cons_succ, List.set_cons_zero]
    simp [go_sem, rowTo, Ext.refl, f23]
    all_goals try simp (disch := omega) only [IntWalk.i64_in]
    all_goals first
      | rfl
      | exact ⟨rfl, rfl⟩
      | exact ⟨⟨rfl, rfl⟩, rfl⟩
  refine fac_via 25 rfl rfl 24 (fun g => .slice (some ⟨g, 0, none⟩) 1 1) (fun _ _ h => by simpa using h) (by decide) rfl (fun _ _ h _ => h) ?_ ?_
  · intro sv w' hfa
    obtain ⟨f23, f24, -⟩ := hfa
    replace f23 : sv 23 = _ := f23
    try dsimp only at f23
    obtain ⟨g24, f24, l24, b24⟩ := f24
    replace f24 : sv 24 = _ := f24
    obtain ⟨p24, q24⟩ := b24.walk
    exact ⟨_, f24⟩
  apply Exists.intro
  refine ⟨fun sv w' g hw' hfa hgi => ?_, ?_⟩
  · obtain ⟨f23, f24, -⟩ := hfa
    replace f23 : sv 23 = _ := f23
    try dsimp only at f23
    obtain ⟨g24, f24, l24, b24⟩ := f24
    replace f24 : sv 24 = _ := f24
    obtain ⟨p24, q24⟩ := b24.walk
    have hgg := f24.symm.trans hgi
    simp only [Value.slice.injEq, Value.pointer.injEq, Option.some.injEq, Addr.mk.injEq, and_true] at hgg
    subst hgg
    have hk9 := (Ext.refl W).drew.trans hw'; obtain ⟨qw, -⟩ := (hBw.ext hk9).walk; obtain ⟨qh, -⟩ := (hBh.ext hk9).walk; obtain ⟨qt, -⟩ := (hBt.ext hk9).walk; obtain ⟨qf, -⟩ := (hBf.ext hk9).walk; obtain ⟨qo, -⟩ := (hBo.ext hk9).walk
    refine ⟨rfl, ?_⟩
    simp only [putsL]
    change quietTo _ _ _ _ (Sem.run _ (execOp (Act.eval (Act.put (Act.put _ (some 40) (sv 24)) (some 39) (sv 23))) _) _)
    try simp only [Act.put, List.setIfInBounds_toArray, List.set_cons_succ, List.set_cons_zero]
    simp [go_sem, quietTo, Ext.refl, f24]
    all_goals try simp (disch := omega) only [IntWalk.i64_in]
    all_goals first
      | rfl
  refine fac_quiet 26 rfl rfl rfl (fun _ _ h _ => h) rfl rfl ?_
  apply Exists.intro
  refine ⟨fun sv w' hw' hfa => ?_, ?_⟩
  · have hk9 := (Ext.refl W).drew.trans hw'; obtain ⟨qw, -⟩ := (hBw.ext hk9).walk; obtain ⟨qh, -⟩ := (hBh.ext hk9).walk; obtain ⟨qt, -⟩ := (hBt.ext hk9).walk; obtain ⟨qf, -⟩ := (hBf.ext hk9).walk; obtain ⟨qo, -⟩ := (hBo.ext hk9).walk
    refine ⟨rfl, ?_⟩
    simp only [putsL]
    change quietTo _ _ _ _ (Sem.run _ (execOp (Act.eval _) _) _)
    try simp only [Act.put, List.setIfInBounds_toArray, List.set_cons_succ, List.set_cons_zero]
    simp [go_sem, quietTo, Ext.refl, ↓IntWalk.iteOmega, qh]
    all_goals try simp (disch := omega) only [IntWalk.i64_in]
    all_goals first
      | rfl
  refine fac_row 27 rfl rfl rfl (fun _ _ h _ => h) (fun _ _ h => h.size) (fun _ _ _ _ _ he _ hb => hb.ext he) ?_
  apply Exists.intro
  apply Exists.intro
  apply Exists.intro
  apply Exists.intro
  refine ⟨fun sv w' hw' hfa => ?_, ?_⟩
  · obtain ⟨f26, -⟩ := hfa
    replace f26 : sv 26 = _ := f26
    try dsimp only at f26
    refine ⟨rfl, ?_⟩
    simp only [putsL]
    change rowTo _ _ _ _ _ (Sem.run _ (execOp (Act.eval (Act.put _ (some 42) (sv 26))) _) _)
    try simp only [Act.put, List.setIfInBounds_toArray, List.set_cons_succ, List.set_cons_zero]
    simp [go_sem, rowTo, Ext.refl, f26]
    all_goals try simp (disch := omega) only [IntWalk.i64_in]
    all_goals first
      | rfl
      | exact ⟨rfl, rfl⟩
      | exact ⟨⟨rfl, rfl⟩, rfl⟩
  refine fac_via 28 rfl rfl 27 (fun g => .slice (some ⟨g, 0, none⟩) 1 1) (fun _ _ h => by simpa using h) (by decide) rfl (fun _ _ h _ => h) ?_ ?_
  · intro sv w' hfa
    obtain ⟨f26, f27, -⟩ := hfa
    replace f26 : sv 26 = _ := f26
    try dsimp only at f26
    obtain ⟨g27, f27, l27, b27⟩ := f27
    replace f27 : sv 27 = _ := f27
    obtain ⟨p27, q27⟩ := b27.walk
    exact ⟨_, f27⟩
  apply Exists.intro
  refine ⟨fun sv w' g hw' hfa hgi => ?_, ?_⟩
  · obtain ⟨f26, f27, -⟩ := hfa
    replace f26 : sv 26 = _ := f26
    try dsimp only at f26
    obtain ⟨g27, f27, l27, b27⟩ := f27
    replace f27 : sv 27 = _ := f27
    obtain ⟨p27, q27⟩ := b27.walk
    have hgg := f27.symm.trans hgi
    simp only [Value.slice.injEq, Value.pointer.injEq, Option.some.injEq, Addr.mk.injEq, and_true] at hgg
    subst hgg
    have hk9 := (Ext.refl W).drew.trans hw'; obtain ⟨qw, -⟩ := (hBw.ext hk9).walk; obtain ⟨qh, -⟩ := (hBh.ext hk9).walk; obtain ⟨qt, -⟩ := (hBt.ext hk9).walk; obtain ⟨qf, -⟩ := (hBf.ext hk9).walk; obtain ⟨qo, -⟩ := (hBo.ext hk9).walk
    refine ⟨rfl, ?_⟩
    simp only [putsL]
    change quietTo _ _ _ _ (Sem.run _ (execOp (Act.eval (Act.put (Act.put _ (some 43) (sv 27)) (some 42) (sv 26))) _) _)
    try simp only [Act.put, List.setIfInBounds_toArray, List.set_cons_succ, List.set_cons_zero]
    simp [go_sem, quietTo, Ext.refl, f27]
    all_goals try simp (disch := omega) only [IntWalk.i64_in]
    all_goals first
      | rfl
  refine fac_quiet 29 rfl rfl rfl (fun _ _ h _ => h) rfl rfl ?_
  apply Exists.intro
  refine ⟨fun sv w' hw' hfa => ?_, ?_⟩
  · have hk9 := (Ext.refl W).drew.trans hw'; obtain ⟨qw, -⟩ := (hBw.ext hk9).walk; obtain ⟨qh, -⟩ := (hBh.ext hk9).walk; obtain ⟨qt, -⟩ := (hBt.ext hk9).walk; obtain ⟨qf, -⟩ := (hBf.ext hk9).walk; obtain ⟨qo, -⟩ := (hBo.ext hk9).walk
    refine ⟨rfl, ?_⟩
    simp only [putsL]
    change quietTo _ _ _ _ (Sem.run _ (execOp (Act.eval _) _) _)
    try simp only [Act.put, List.setIfInBounds_toArray, List.set_cons_succ, List.set_cons_zero]
    simp [go_sem, quietTo, Ext.refl, ↓IntWalk.iteOmega, qw]
    all_goals try simp (disch := omega) only [IntWalk.i64_in]
    all_goals first
      | rfl
  refine fac_quiet 30 rfl rfl rfl (fun _ _ h _ => h) rfl rfl ?_
  apply Exists.intro
  refine ⟨fun sv w' hw' hfa => ?_, ?_⟩
  · have hk9 := (Ext.refl W).drew.trans hw'; obtain ⟨qw, -⟩ := (hBw.ext hk9).walk; obtain ⟨qh, -⟩ := (hBh.ext hk9).walk; obtain ⟨qt, -⟩ := (hBt.ext hk9).walk; obtain ⟨qf, -⟩ := (hBf.ext hk9).walk; obtain ⟨qo, -⟩ := (hBo.ext hk9).walk
    refine ⟨rfl, ?_⟩
    simp only [putsL]
    change quietTo _ _ _ _ (Sem.run _ (execOp (Act.eval _) _) _)
    try simp only [Act.put, List.setIfInBounds_toArray, List.set_cons_succ, List.set_cons_zero]
    simp [go_sem, quietTo, Ext.refl, ↓IntWalk.iteOmega, qo]
    all_goals try simp (disch := omega) only [IntWalk.i64_in]
    all_goals first
      | rfl
  refine fac_row 31 rfl rfl rfl (fun _ _ h _ => h) (fun _ _ h => h.size) (fun _ _ _ _ _ he _ hb => hb.ext he) ?_
  apply Exists.intro
  apply Exists.intro
  apply Exists.intro
  apply Exists.intro
  refine ⟨fun sv w' hw' hfa => ?_, ?_⟩
  · obtain ⟨f29, f30, -⟩ := hfa
    replace f29 : sv 29 = _ := f29
    try dsimp only at f29
    replace f30 : sv 30 = _ := f30
    try dsimp only at f30
    refine ⟨rfl, ?_⟩
    simp only [putsL]
    change rowTo _ _ _ _ _ (Sem.run _ (execOp (Act.eval (Act.put (Act.put _ (some 46) (sv 30)) (some 45) (sv 29))) _) _)
    try simp only [Act.put, List.setIfInBounds_toArray, List.set_cons_succ, List.set_cons_zero]
    simp [go_sem, rowTo, Ext.refl, f29, f30]
    all_goals try simp (disch := omega) only [IntWalk.i64_in]
    all_goals first
      | rfl
      | exact ⟨rfl, rfl⟩
      | exact ⟨⟨rfl, rfl⟩, rfl⟩
  refine fac_via 32 rfl rfl 31 (fun g => .slice (some ⟨g, 0, none⟩) 2 2) (fun _ _ h => by simpa using h) (by decide) rfl (fun _ _ h _ => h) ?_ ?_
  · intro sv w' hfa
    obtain ⟨f29, f30, f31, -⟩ := hfa
    replace f29 : sv 29 = _ := f29
    try dsimp only at f29
    replace f30 : sv 30 = _ := f30
    try dsimp only at f30
    obtain ⟨g31, f31, l31, b31⟩ := f31
    replace f31 : sv 31 = _ := f31
    obtain ⟨p31, q31⟩ := b31.walk
    exact ⟨_, f31⟩
  apply Exists.intro
  refine ⟨fun sv w' g hw' hfa hgi => ?_, ?_⟩
  · obtain ⟨f29, f30, f31, -⟩ := hfa
    replace f29 : sv 29 = _ := f29
    try dsimp only at f29
    replace f30 : sv 30 = _ := f30
    try dsimp only at f30
    obtain ⟨g31, f31, l31, b31⟩ := f31
    replace f31 : sv 31 = _ := f31
    obtain ⟨p31, q31⟩ := b31.walk
    have hgg := f31.symm.trans hgi
    simp only [Value.slice.injEq, Value.pointer.injEq, Option.some.injEq, Addr.mk.injEq, and_true] at hgg
    subst hgg
    have hk9 := (Ext.refl W).drew.trans hw'; obtain ⟨qw, -⟩ := (hBw.ext hk9).walk; obtain ⟨qh, -⟩ := (hBh.ext hk9).walk; obtain ⟨qt, -⟩ := (hBt.ext hk9).walk; obtain ⟨qf, -⟩ := (hBf.ext hk9).walk; obtain ⟨qo, -⟩ := (hBo.ext hk9).walk
    refine ⟨rfl, ?_⟩
    simp only [putsL]
    change quietTo _ _ _ _ (Sem.run _ (execOp (Act.eval (Act.put (Act.put (Act.put _ (some 47) (sv 31)) (some 46) (sv 30)) (some 45) (sv 29))) _) _)
    try simp only [Act.put, List.setIfInBounds_toArray, List.set_cons_succ, List.set_cons_zero]
    simp [go_sem, quietTo, Ext.refl, f31]
    all_goals try simp (disch := omega) only [IntWalk.i64_in]
    all_goals first
      | rfl
  refine fac_quiet 33 rfl rfl rfl (fun _ _ h _ => h) rfl rfl ?_
  apply Exists.intro
  refine ⟨fun sv w' hw' hfa => ?_, ?_⟩
  · have hk9 := (Ext.refl W).drew.trans hw'; obtain ⟨qw, -⟩ := (hBw.ext hk9).walk; obtain ⟨qh, -⟩ := (hBh.ext hk9).walk; obtain ⟨qt, -⟩ := (hBt.ext hk9).walk; obtain ⟨qf, -⟩ := (hBf.ext hk9).walk; obtain ⟨qo, -⟩ := (hBo.ext hk9).walk
    refine ⟨rfl, ?_⟩
    simp only [putsL]
    change quietTo _ _ _ _ (Sem.run _ (execOp (Act.eval _) _) _)
    try simp only [Act.put, List.setIfInBounds_toArray, List.set_cons_succ, List.set_cons_zero]
    simp [go_sem, quietTo, Ext.refl, ↓IntWalk.iteOmega, qt]
    all_goals try simp (disch := omega) only [IntWalk.i64_in]
    all_goals first
      | rfl
  refine fac_quiet 34 rfl rfl rfl (fun _ _ h _ => h) rfl rfl ?_
  apply Exists.intro
  refine ⟨fun sv w' hw' hfa => ?_, ?_⟩
  · refine ⟨rfl, ?_⟩
    simp only [putsL]
    change quietTo _ _ _ _ (Sem.run _ (execOp (Act.eval _) _) _)
    try simp only [Act.put, List.setIfInBounds_toArray, List.set_cons_succ, List.set_cons_zero]
    simp [go_sem, quietTo, Ext.refl]
    all_goals first
      | rfl
  refine fac_row 35 rfl rfl rfl (fun _ _ h _ => h) (fun _ _ h => h.size) (fun _ _ _ _ _ he _ hb => hb.ext he) ?_
  apply Exists.intro
  apply Exists.intro
  apply Exists.intro
  apply Exists.intro
  refine ⟨fun sv w' hw' hfa => ?_, ?_⟩
  · obtain ⟨f33, f34, -⟩ := hfa
    replace f33 : sv 33 = _ := f33
    try dsimp only at f33
    replace f34 : sv 34 = _ := f34
    try dsimp only at f34
    refine ⟨rfl, ?_⟩
    simp only [putsL]
    change rowTo _ _ _ _ _ (Sem.run _ (execOp (Act.eval (Act.put (Act.put _ (some 50) (sv 34)) (some 49) (sv 33))) _) _)
    try simp only [Act.put, List.setIfInBounds_toArray, List.set_cons_succ, List.set_cons_zero]
    simp [go_sem, rowTo, Ext.refl, f33, f34]
    all_goals try simp (disch := omega) only [IntWalk.i64_in]
    all_goals first
      | rfl
      | exact ⟨rfl, rfl⟩
      | exact ⟨⟨rfl, rfl⟩, rfl⟩
  refine fac_via 36 rfl rfl 35 (fun g => .slice (some ⟨g, 0, none⟩) 2 2) (fun _ _ h => by simpa using h) (by decide) rfl (fun _ _ h _ => h) ?_ ?_
  · intro sv w' hfa
    obtain ⟨f33, f34, f35, -⟩ := hfa
    replace f33 : sv 33 = _ := f33
    try dsimp only at f33
    replace f34 : sv 34 = _ := f34
    try dsimp only at f34
    obtain ⟨g35, f35, l35, b35⟩ := f35
    replace f35 : sv 35 = _ := f35
    obtain ⟨p35, q35⟩ := b35.walk
    exact ⟨_, f35⟩
  apply Exists.intro
  refine ⟨fun sv w' g hw' hfa hgi => ?_, ?_⟩
  · obtain ⟨f33, f34, f35, -⟩ := hfa
    replace f33 : sv 33 = _ := f33
    try dsimp only at f33
    replace f34 : sv 34 = _ := f34
    try dsimp only at f34
    obtain ⟨g35, f35, l35, b35⟩ := f35
    replace f35 : sv 35 = _ := f35
    obtain ⟨p35, q35⟩ := b35.walk
    have hgg := f35.symm.trans hgi
    simp only [Value.slice.injEq, Value.pointer.injEq, Option.some.injEq, Addr.mk.injEq, and_true] at hgg
    subst hgg
    have hk9 := (Ext.refl W).drew.trans hw'; obtain ⟨qw, -⟩ := (hBw.ext hk9).walk; obtain ⟨qh, -⟩ := (hBh.ext hk9).walk; obtain ⟨qt, -⟩ := (hBt.ext hk9).walk; obtain ⟨qf, -⟩ := (hBf.ext hk9).walk; obtain ⟨qo, -⟩ := (hBo.ext hk9).walk
    refine ⟨rfl, ?_⟩
    simp only [putsL]
    change quietTo _ _ _ _ (Sem.run _ (execOp (Act.eval (Act.put (Act.put (Act.put _ (some 51) (sv 35)) (some 50) (sv 34)) (some 49) (sv 33))) _) _)
    try simp only [Act.put, List.setIfInBounds_toArray, List.set_cons_succ, List.set_cons_zero]
    simp [go_sem, quietTo, Ext.refl, f35]
    all_goals try simp (disch := omega) only [IntWalk.i64_in]
    all_goals first
      | rfl
  refine fac_quiet 37 rfl rfl rfl (fun _ _ h _ => h) rfl rfl ?_
  apply Exists.intro
  refine ⟨fun sv w' hw' hfa => ?_, ?_⟩
  · have hk9 := (Ext.refl W).drew.trans hw'; obtain ⟨qw, -⟩ := (hBw.ext hk9).walk; obtain ⟨qh, -⟩ := (hBh.ext hk9).walk; obtain ⟨qt, -⟩ := (hBt.ext hk9).walk; obtain ⟨qf, -⟩ := (hBf.ext hk9).walk; obtain ⟨qo, -⟩ := (hBo.ext hk9).walk
    refine ⟨rfl, ?_⟩
    simp only [putsL]
    change quietTo _ _ _ _ (Sem.run _ (execOp (Act.eval _) _) _)
    try simp only [Act.put, List.setIfInBounds_toArray, List.set_cons_succ, List.set_cons_zero]
    simp [go_sem, quietTo, Ext.refl, ↓IntWalk.iteOmega, qf]
    all_goals try simp (disch := omega) only [IntWalk.i64_in]
    all_goals first
      | rfl
  refine fac_row 38 rfl rfl rfl (fun _ _ h _ => h) (fun _ _ h => h.size) (fun _ _ _ _ _ he _ hb => hb.ext he) ?_
  apply Exists.intro
  apply Exists.intro
  apply Exists.intro
  apply Exists.intro
  refine ⟨fun sv w' hw' hfa => ?_, ?_⟩
  · obtain ⟨f37, -⟩ := hfa
    replace f37 : sv 37 = _ := f37
    try dsimp only at f37
    refine ⟨rfl, ?_⟩
    simp only [putsL]
    change rowTo _ _ _ _ _ (Sem.run _ (execOp (Act.eval (Act.put _ (some 53) (sv 37))) _) _)
    try simp only [Act.put, List.setIfInBounds_toArray, List.set_cons_succ, List.set_cons_zero]
    simp [go_sem, rowTo, Ext.refl, f37]
    all_goals try simp (disch := omega) only [IntWalk.i64_in]
    all_goals first
      | rfl
      | exact ⟨rfl, rfl⟩
      | exact ⟨⟨rfl, rfl⟩, rfl⟩
  refine fac_via 39 rfl rfl 38 (fun g => .slice (some ⟨g, 0, none⟩) 1 1) (fun _ _ h => by simpa using h) (by decide) rfl (fun _ _ h _ => h) ?_ ?_
  · intro sv w' hfa
    obtain ⟨f37, f38, -⟩ := hfa
    replace f37 : sv 37 = _ := f37
    try dsimp only at f37
    obtain ⟨g38, f38, l38, b38⟩ := f38
    replace f38 : sv 38 = _ := f38
    obtain ⟨p38, q38⟩ := b38.walk
    exact ⟨_, f38⟩
  apply Exists.intro
  refine ⟨fun sv w' g hw' hfa hgi => ?_, ?_⟩
  · obtain ⟨f37, f38, -⟩ := hfa
    replace f37 : sv 37 = _ := f37
    try dsimp only at f37
    obtain ⟨g38, f38, l38, b38⟩ := f38
    replace f38 : sv 38 = _ := f38
    obtain ⟨p38, q38⟩ := b38.walk
    have hgg := f38.symm.trans hgi
    simp only [Value.slice.injEq, Value.pointer.injEq, Option.some.injEq, Addr.mk.injEq, and_true] at hgg
    subst hgg
    have hk9 := (Ext.refl W).drew.trans hw'; obtain ⟨qw, -⟩ := (hBw.ext hk9).walk; obtain ⟨qh, -⟩ := (hBh.ext hk9).walk; obtain ⟨qt, -⟩ := (hBt.ext hk9).walk; obtain ⟨qf, -⟩ := (hBf.ext hk9).walk; obtain ⟨qo, -⟩ := (hBo.ext hk9).walk
    refine ⟨rfl, ?_⟩
    simp only [putsL]
    change quietTo _ _ _ _ (Sem.run _ (execOp (Act.eval (Act.put (Act.put _ (some 54) (sv 38)) (some 53) (sv 37))) _) _)
    try simp only [Act.put, List.setIfInBounds_toArray, List.set_cons_succ, List.set_cons_zero]
    simp [go_sem, quietTo, Ext.refl, f38]
    all_goals try simp (disch := omega) only [IntWalk.i64_in]
    all_goals first
      | rfl
  refine fac_any 40 rfl rfl rfl (fun _ _ h _ => h) ?_
  refine ⟨(fun y u => ∃ g : Nat, y 40 = .slice (some ⟨g, 0, none⟩) 9 9 ∧ W.heap.size ≤ g ∧ Blk u g 52 #[.int .i64 (-7), y 3, .int .i64 (-4), y 8, .int .i64 (-2), y 16, .int .i64 (-1), y 21, .int .i64 0, y 24, .int .i64 1, y 27, .int .i64 2, y 31, .int .i64 4, y 35, .int .i64 7, y 38]), fun sv w' hw' hfa => ?_, ?_, ?_⟩
  · obtain ⟨f0, f1, f2, f3, f4, f5, f6, f7, f8, f9, f10, f11, f12, f13, f14, f15, f16, f17, f18, f19, f20, f21, f22, f23, f24, f25, f26, f27, f28, f29, f30, f31, f32, f33, f34, f35, f36, f37, f38, f39, -⟩ := hfa
    replace f0 : sv 0 = _ := f0
    try dsimp only at f0
    replace f1 : sv 1 = _ := f1
    try dsimp only at f1
    replace f2 : sv 2 = _ := f2
    try dsimp only at f2
    obtain ⟨g3, f3, l3, b3⟩ := f3
    replace f3 : sv 3 = _ := f3
    obtain ⟨p3, q3⟩ := b3.walk
    replace f4 : sv 4 = _ := f4 _ f3
    try dsimp only at f4
    replace f5 : sv 5 = _ := f5
    try dsimp only at f5
    replace f6 : sv 6 = _ := f6
    try dsimp only at f6
    replace f7 : sv 7 = _ := f7
    try dsimp only at f7
    obtain ⟨g8, f8, l8, b8⟩ := f8
    replace f8 : sv 8 = _ := f8
    obtain ⟨p8, q8⟩ := b8.walk
    replace f9 : sv 9 = _ := f9 _ f8
    try dsimp only at f9
    replace f10 : sv 10 = _ := f10
    try dsimp only at f10
    replace f11 : sv 11 = _ := f11
    try dsimp only at f11
    replace f12 : sv 12 = _ := f12
    try dsimp only at f12
    replace f13 : sv 13 = _ := f13
    try dsimp only at f13
    replace f14 : sv 14 = _ := f14
    try dsimp only at f14
    replace f15 : sv 15 = _ := f15
    try dsimp only at f15
    obtain ⟨g16, f16, l16, b16⟩ := f16
    replace f16 : sv 16 = _ := f16
    obtain ⟨p16, q16⟩ := b16.walk
    replace f17 : sv 17 = _ := f17 _ f16
    try dsimp only at f17
    replace f18 : sv 18 = _ := f18
    try dsimp only at f18
    replace f19 : sv 19 = _ := f19
    try dsimp only at f19
    replace f20 : sv 20 = _ := f20
    try dsimp only at f20
    obtain ⟨g21, f21, l21, b21⟩ := f21
    replace f21 : sv 21 = _ := f21
    obtain ⟨p21, q21⟩ := b21.walk
    replace f22 : sv 22 = _ := f22 _ f21
    try dsimp only at f22
    replace f23 : sv 23 = _ := f23
    try dsimp only at f23
    obtain ⟨g24, f24, l24, b24⟩ := f24
    replace f24 : sv 24 = _ := f24
    obtain ⟨p24, q24⟩ := b24.walk
    replace f25 : sv 25 = _ := f25 _ f24
    try dsimp only at f25
    replace f26 : sv 26 = _ := f26
    try dsimp only at f26
    obtain ⟨g27, f27, l27, b27⟩ := f27
    replace f27 : sv 27 = _ := f27
    obtain ⟨p27, q27⟩ := b27.walk
    replace f28 : sv 28 = _ := f28 _ f27
    try dsimp only at f28
    replace f29 : sv 29 = _ := f29
    try dsimp only at f29
    replace f30 : sv 30 = _ := f30
    try dsimp only at f30
    obtain ⟨g31, f31, l31, b31⟩ := f31
    replace f31 : sv 31 = _ := f31
    obtain ⟨p31, q31⟩ := b31.walk
    replace f32 : sv 32 = _ := f32 _ f31
    try dsimp only at f32
    replace f33 : sv 33 = _ := f33
    try dsimp only at f33
    replace f34 : sv 34 = _ := f34
    try dsimp only at f34
    obtain ⟨g35, f35, l35, b35⟩ := f35
    replace f35 : sv 35 = _ := f35
    obtain ⟨p35, q35⟩ := b35.walk
    replace f36 : sv 36 = _ := f36 _ f35
    try dsimp only at f36
    replace f37 : sv 37 = _ := f37
    try dsimp only at f37
    obtain ⟨g38, f38, l38, b38⟩ := f38
    replace f38 : sv 38 = _ := f38
    obtain ⟨p38, q38⟩ := b38.walk
    replace f39 : sv 39 = _ := f39 _ f38
    try dsimp only at f39
    have hk9 := (Ext.refl W).drew.trans hw'; obtain ⟨qw, -⟩ := (hBw.ext hk9).walk; obtain ⟨qh, -⟩ := (hBh.ext hk9).walk; obtain ⟨qt, -⟩ := (hBt.ext hk9).walk; obtain ⟨qf, -⟩ := (hBf.ext hk9).walk; obtain ⟨qo, -⟩ := (hBo.ext hk9).walk
    refine ⟨rfl, ?_⟩
    simp only [putsL]
    change outc _ _ (Sem.run _ (execOp (Act.eval (Act.put (Act.put (Act.put (Act.put (Act.put (Act.put (Act.put (Act.put (Act.put (Act.put (Act.put (Act.put (Act.put (Act.put (Act.put (Act.put (Act.put (Act.put (Act.put (Act.put (Act.put (Act.put (Act.put (Act.put (Act.put (Act.put (Act.put (Act.put (Act.put (Act.put (Act.put (Act.put (Act.put (Act.put (Act.put (Act.put (Act.put (Act.put (Act.put (Act.put _ (some 55) (sv 39)) (some 54) (sv 38)) (some 53) (sv 37)) (some 52) (sv 36)) (some 51) (sv 35)) (some 50) (sv 34)) (some 49) (sv 33)) (some 48) (sv 32)) (some 47) (sv 31)) (some 46) (sv 30)) (some 45) (sv 29)) (some 44) (sv 28)) (some 43) (sv 27)) (some 42) (sv 26)) (some 41) (sv 25)) (some 40) (sv 24)) (some 39) (sv 23)) (some 38) (sv 22)) (some 37) (sv 21)) (some 36) (sv 20)) (some 35) (sv 19)) (some 34) (sv 18)) (some 33) (sv 17)) (some 32) (sv 16)) (some 31) (sv 15)) (some 30) (sv 14)) (some 29) (sv 13)) (some 28) (sv 12)) (some 27) (sv 11)) (some 26) (sv 10)) (some 25) (sv 9)) (some 24) (sv 8)) (some 23) (sv 7)) (some 22) (sv 6)) (some 21) (sv 5)) (some 20) (sv 4)) (some 19) (sv 3)) (some 18) (sv 2)) (some 17) (sv 1)) (some 16) (sv 0))) _) _)
    try simp only [Act.put, List.setIfInBounds_toArray, List.set_cons_succ, List.set_cons_zero]
    simp [go_sem, outc, f4, f9, f17, f22, f25, f28, f32, f36, f39]
    refine ⟨(Ext.refl _).alloc _, ⟨w'.heap.size, by simp [upd], by have := hw'.size; simpa using this, ?_⟩, Nat.le_refl _, by simp [blkOf]⟩
    refine (Blk.new' rfl).cast ?_
    simp [upd, f3, f8, f16, f21, f24, f27, f31, f35, f38]
  · exact fun x w w' ⟨g, h1, h2, h4⟩ he => ⟨g, h1, h2, h4.ext he⟩
  refine fac_nil fun xa wra hera hfra hcra holda hapa => ?_
  obtain ⟨f0, f1, f2, f3, f4, f5, f6, f7, f8, f9, f10, f11, f12, f13, f14, f15, f16, f17, f18, f19, f20, f21, f22, f23, f24, f25, f26, f27, f28, f29, f30, f31, f32, f33, f34, f35, f36, f37, f38, f39, f40, -⟩ := hfra
  replace f0 : xa 0 = _ := f0
  try dsimp only at f0
  replace f1 : xa 1 = _ := f1
  try dsimp only at f1
  replace f2 : xa 2 = _ := f2
  try dsimp only at f2
  obtain ⟨g3, f3, l3, b3⟩ := f3
  replace f3 : xa 3 = _ := f3
  obtain ⟨p3, q3⟩ := b3.walk
  replace f4 : xa 4 = _ := f4 _ f3
  try dsimp only at f4
  replace f5 : xa 5 = _ := f5
  try dsimp only at f5
  replace f6 : xa 6 = _ := f6
  try dsimp only at f6
  replace f7 : xa 7 = _ := f7
  try dsimp only at f7
  obtain ⟨g8, f8, l8, b8⟩ := f8
  replace f8 : xa 8 = _ := f8
  obtain ⟨p8, q8⟩ := b8.walk
  replace f9 : xa 9 = _ := f9 _ f8
  try dsimp only at f9
  replace f10 : xa 10 = _ := f10
  try dsimp only at f10
  replace f11 : xa 11 = _ := f11
  try dsimp only at f11
  replace f12 : xa 12 = _ := f12
  try dsimp only at f12
  replace f13 : xa 13 = _ := f13
  try dsimp only at f13
  replace f14 : xa 14 = _ := f14
  try dsimp only at f14
  replace f15 : xa 15 = _ := f15
  try dsimp only at f15
  obtain ⟨g16, f16, l16, b16⟩ := f16
  replace f16 : xa 16 = _ := f16
  obtain ⟨p16, q16⟩ := b16.walk
  replace f17 : xa 17 = _ := f17 _ f16
  try dsimp only at f17
  replace f18 : xa 18 = _ := f18
  try dsimp only at f18
  replace f19 : xa 19 = _ := f19
  try dsimp only at f19
  replace f20 : xa 20 = _ := f20
  try dsimp only at f20
  obtain ⟨g21, f21, l21, b21⟩ := f21
  replace f21 : xa 21 = _ := f21
  obtain ⟨p21, q21⟩ := b21.walk
  replace f22 : xa 22 = _ := f22 _ f21
  try dsimp only at f22
  replace f23 : xa 23 = _ := f23
  try dsimp only at f23
  obtain ⟨g24, f24, l24, b24⟩ := f24
  replace f24 : xa 24 = _ := f24
  obtain ⟨p24, q24⟩ := b24.walk
  replace f25 : xa 25 = _ := f25 _ f24
  try dsimp only at f25
  replace f26 : xa 26 = _ := f26
  try dsimp only at f26
  obtain ⟨g27, f27, l27, b27⟩ := f27
  replace f27 : xa 27 = _ := f27
  obtain ⟨p27, q27⟩ := b27.walk
  replace f28 : xa 28 = _ := f28 _ f27
  try dsimp only at f28
  replace f29 : xa 29 = _ := f29
  try dsimp only at f29
  replace f30 : xa 30 = _ := f30
  try dsimp only at f30
  obtain ⟨g31, f31, l31, b31⟩ := f31
  replace f31 : xa 31 = _ := f31
  obtain ⟨p31, q31⟩ := b31.walk
  replace f32 : xa 32 = _ := f32 _ f31
  try dsimp only at f32
  replace f33 : xa 33 = _ := f33
  try dsimp only at f33
  replace f34 : xa 34 = _ := f34
  try dsimp only at f34
  obtain ⟨g35, f35, l35, b35⟩ := f35
  replace f35 : xa 35 = _ := f35
  obtain ⟨p35, q35⟩ := b35.walk
  replace f36 : xa 36 = _ := f36 _ f35
  try dsimp only at f36
  replace f37 : xa 37 = _ := f37
  try dsimp only at f37
  obtain ⟨g38, f38, l38, b38⟩ := f38
  replace f38 : xa 38 = _ := f38
  obtain ⟨p38, q38⟩ := b38.walk
  replace f39 : xa 39 = _ := f39 _ f38
  try dsimp only at f39
  obtain ⟨g40, f40, l40, b40⟩ := f40
  replace f40 : xa 40 = _ := f40
  change wpList _ _ _ _ (Act.put (Act.put (Act.put (Act.put (Act.put (Act.put (Act.put (Act.put (Act.put (Act.put (Act.put (Act.put (Act.put (Act.put (Act.put (Act.put (Act.put (Act.put (Act.put (Act.put (Act.put (Act.put (Act.put (Act.put (Act.put (Act.put (Act.put (Act.put (Act.put (Act.put (Act.put (Act.put (Act.put (Act.put (Act.put (Act.put (Act.put (Act.put (Act.put (Act.put (Act.put _ (some 16) (xa 0)) (some 17) (xa 1)) (some 18) (xa 2)) (some 19) (xa 3)) (some 20) (xa 4)) (some 21) (xa 5)) (some 22) (xa 6)) (some 23) (xa 7)) (some 24) (xa 8)) (some 25) (xa 9)) (some 26) (xa 10)) (some 27) (xa 11)) (some 28) (xa 12)) (some 29) (xa 13)) (some 30) (xa 14)) (some 31) (xa 15)) (some 32) (xa 16)) (some 33) (xa 17)) (some 34) (xa 18)) (some 35) (xa 19)) (some 36) (xa 20)) (some 37) (xa 21)) (some 38) (xa 22)) (some 39) (xa 23)) (some 40) (xa 24)) (some 41) (xa 25)) (some 42) (xa 26)) (some 43) (xa 27)) (some 44) (xa 28)) (some 45) (xa 29)) (some 46) (xa 30)) (some 47) (xa 31)) (some 48) (xa 32)) (some 49) (xa 33)) (some 50) (xa 34)) (some 51) (xa 35)) (some 52) (xa 36)) (some 53) (xa 37)) (some 54) (xa 38)) (some 55) (xa 39)) (some 56) (xa 40)) _
  simp only [putsL, Nat.reduceAdd, List.drop_succ_cons, List.drop_zero, List.drop_nil, Act.put, List.setIfInBounds_toArray, List.set_cons_succ, List.set_cons_zero]
  try simp only [f0, f1, f2, f3, f4, f5, f6, f7, f8, f9, f10, f11, f12, f13, f14, f15, f16, f17, f18, f19, f20, f21, f22, f23, f24, f25, f26, f27, f28, f29, f30, f31, f32, f33, f34, f35, f36, f37, f38, f39, f40]
  clear f0 f1 f2 f5 f6 f7 f10 f11 f12 f13 f14 f15 f18 f19 f20 f23 f26 f29 f30 f33 f34 f37
  clear holda hapa
  have hEa0 := (Ext.refl W).drew.trans hera
  have hEa := hE0.trans hEa0
  have hSa := hS0.ext hEa0
  have hBwa := hBw.ext hEa0
  replace b40 : Blk wra g40 52 #[.int .i64 (-7), xa 3, .int .i64 (-4), xa 8, .int .i64 (-2), xa 16, .int .i64 (-1), xa 21, .int .i64 0, xa 24, .int .i64 1, xa 27, .int .i64 2, xa 31, .int .i64 4, xa 35, .int .i64 7, xa 38] := b40
  rw [f3, f8, f16, f21, f24, f27, f31, f35, f38] at b40
  have n3 := blk_ne b3 b40 (by decide)
  have n8 := blk_ne b8 b40 (by decide)
  have n16 := blk_ne b16 b40 (by decide)
  have n21 := blk_ne b21 b40 (by decide)
  have n24 := blk_ne b24 b40 (by decide)
  have n27 := blk_ne b27 b40 (by decide)
  have n31 := blk_ne b31 b40 (by decide)
  have n35 := blk_ne b35 b40 (by decide)
  have n38 := blk_ne b38 b40 (by decide)
  have hSL : SL wra w.heap.size g40 [⟨-7, some ⟨g3, 0, none⟩, 1, 1⟩, ⟨-4, some ⟨g8, 0, none⟩, 1, 1⟩, ⟨-2, some ⟨g16, 0, none⟩, 2, 2⟩, ⟨-1, some ⟨g21, 0, none⟩, 1, 1⟩, ⟨0, some ⟨g24, 0, none⟩, 1, 1⟩, ⟨1, some ⟨g27, 0, none⟩, 1, 1⟩, ⟨2, some ⟨g31, 0, none⟩, 2, 2⟩, ⟨4, some ⟨g35, 0, none⟩, 2, 2⟩, ⟨7, some ⟨g38, 0, none⟩, 1, 1⟩] stX0 := ⟨b40, rfl, by decide, Nat.le_trans hE0.size l40, fun i x hx => by
    match i, hx with
    | 0, hx => simp [stX0] at hx; subst hx; exact ⟨_, rfl, rfl, rfl, slc_blk i4C_len (xs := [⟨1, -1, 0, 0⟩]) b3 (by decide), fun a ha => by cases ha; exact ⟨Nat.le_trans hE0.size l3, n3⟩⟩
    | 1, hx => simp [stX0] at hx; subst hx; exact ⟨_, rfl, rfl, rfl, slc_blk i4C_len (xs := [⟨2, 0, -1, 0⟩]) b8 (by decide), fun a ha => by cases ha; exact ⟨Nat.le_trans hE0.size l8, n8⟩⟩
    | 2, hx => simp [stX0] at hx; subst hx; exact ⟨_, rfl, rfl, rfl, slc_blk i4C_len (xs := [⟨3, -2, 0, 0⟩, ⟨-1, 2, -1, 0⟩]) b16 (by decide), fun a ha => by cases ha; exact ⟨Nat.le_trans hE0.size l16, n16⟩⟩
    | 3, hx => simp [stX0] at hx; subst hx; exact ⟨_, rfl, rfl, rfl, slc_blk i4C_len (xs := [⟨-4, 1, 1, 0⟩]) b21 (by decide), fun a ha => by cases ha; exact ⟨Nat.le_trans hE0.size l21, n21⟩⟩
    | 4, hx => simp [stX0] at hx; subst hx; exact ⟨_, rfl, rfl, rfl, slc_blk i4C_len (xs := [⟨0, 0, 0, 0⟩]) b24 (by decide), fun a ha => by cases ha; exact ⟨Nat.le_trans hE0.size l24, n24⟩⟩
    | 5, hx => simp [stX0] at hx; subst hx; exact ⟨_, rfl, rfl, rfl, slc_blk i4C_len (xs := [⟨4, -1, -1, 0⟩]) b27 (by decide), fun a ha => by cases ha; exact ⟨Nat.le_trans hE0.size l27, n27⟩⟩
    | 6, hx => simp [stX0] at hx; subst hx; exact ⟨_, rfl, rfl, rfl, slc_blk i4C_len (xs := [⟨-3, 2, 0, 0⟩, ⟨1, -2, 1, 0⟩]) b31 (by decide), fun a ha => by cases ha; exact ⟨Nat.le_trans hE0.size l31, n31⟩⟩
    | 7, hx => simp [stX0] at hx; subst hx; exact ⟨_, rfl, rfl, rfl, slc_blk i4C_len (xs := [⟨-2, 0, 1, 0⟩, ⟨-6, 4, 0, 0⟩]) b35 (by decide), fun a ha => by cases ha; exact ⟨Nat.le_trans hE0.size l35, n35⟩⟩
    | 8, hx => simp [stX0] at hx; subst hx; exact ⟨_, rfl, rfl, rfl, slc_blk i4C_len (xs := [⟨-1, 1, 0, 0⟩]) b38 (by decide), fun a ha => by cases ha; exact ⟨Nat.le_trans hE0.size l38, n38⟩⟩
    | i + 9, hx => simp [stX0] at hx⟩
  clear b3 p3 q3 n3 b8 p8 q8 n8 b16 p16 q16 n16 b21 p21 q21 n21 b24 p24 q24 n24 b27 p27 q27 n27 b31 p31 q31 n31 b35 p35 q35 n35 b38 p38 q38 n38
  clear hera hEa0 hS0 hBh hBt hBf hBo hBw hE0 b40
  obtain ⟨R0, hSL⟩ : ∃ R0, SL wra w.heap.size g40 R0 stX0 := ⟨_, hSL⟩
  obtain ⟨f12, hf12⟩ : ∃ b, flF L a 12 = b := ⟨_, rfl⟩
  have hF2 := hF.out
  rw [hf12] at hF2
  clear hF
  replace hF2 := Lib.hid hF2
  go_upto_if 58 with (go_at_call 8; refine (flip_det s a 12 L _ (by omega) (by omega) (by omega) hSa).mono ?_; rw [hf12]; rintro e w5 ⟨rfl, hS5, hE5⟩)
  have hSL5 := hSL.extS l0 hE5
  have hEw5 : ExtS s w w5 := hEa.extS.trans hE5
  have hBw5 := hBwa.extS (show w.heap.size ≠ s by omega) hE5
  clear hSL hSa hBwa hE5 hEa hf12
  cases f12
  · have hF3 := hF2.out
    simp only [Bool.false_eq_true, if_false, Prod.mk.injEq] at hF3
    obtain ⟨rfl, rfl⟩ := hF3
    go_wp2
    go_ret
    exact ⟨g40, rfl, hSL5.m, hS5, hEw5⟩
  · have hF3 := hF2.out
    simp only [if_true, Prod.mk.injEq] at hF3
    obtain ⟨k, hkv⟩ : ∃ k, nxF L (a + 1) 9 = k := ⟨_, rfl⟩
    have hk9 : k < 9 := by rw [← hkv]; exact nxF_lt L (a + 1) 9 (by decide)
    rw [hkv] at hF3
    obtain ⟨x, hx⟩ : ∃ x, stX0[k]? = some x := ⟨_, List.getElem?_eq_getElem (by simpa [stX0] using hk9)⟩
    rw [show stX0.getD k ⟨0, []⟩ = x by rw [List.getD_eq_getElem?_getD, hx]; rfl] at hF3
    obtain ⟨hx1, hx2, hx3⟩ := stX0_at hx
    have hkI : (k : Int) < 9 := by omega
    obtain ⟨sz, hsz⟩ : ∃ z, pkF L (a + 2) [x.size, x.size + 1, 25] = z := ⟨_, rfl⟩
    obtain ⟨iv, hiv⟩ : ∃ q, ivF L (a + 2 + 1) = q := ⟨_, rfl⟩
    obtain ⟨I, a3⟩ := iv
    have hivl := ivF_le L (a + 2 + 1)
    rw [hiv] at hivl
    simp only at hivl
    have hO : stOne L (a + 2) x = if flF L a3 3 then (⟨sz, []⟩, a3 + 1) else (⟨sz, x.cs ++ [I, ⟨-3, 2, 0, 0⟩]⟩, a3 + 1) := by unfold stOne; rw [hsz, hiv]
    rw [hO] at hF3
    clear hF2 hO
    replace hF3 := Lib.hid hF3
    replace hiv := Lib.hid hiv
    replace hsz := Lib.hid hsz
    go_upto_region 7 with (go_at_call 10; refine (next_det s (a + 1) 9 L _ (by omega) (by omega) (by omega) hS5).mono ?_; rw [hkv]; rintro e w6 ⟨rfl, hS6, hE6⟩)
    have hSL6 := hSL5.extS l0 hE6
    have hEw6 := hEw5.trans hE6
    have hBw6 := hBw5.extS (show w.heap.size ≠ s by omega) hE6
    clear hSL5 hEw5 hBw5 hE6 hS5 hkv
    obtain ⟨r, hr, hrs, hrn, hrc, hrb⟩ := hSL6.ch k x hx
    have c0 : w6.cell? ⟨g40, k * 2, none⟩ = some (.int .i64 x.size) := by
      rw [hSL6.blk.cell, List.getElem?_toArray, ← hrs]
      exact flat_at stpC_len R0 k r hr 0 _ rfl
    have c1 : w6.cell? ⟨g40, k * 2 + 1, none⟩ = some (.slice r.p r.n r.c) := by
      rw [hSL6.blk.cell, List.getElem?_toArray]
      exact flat_at stpC_len R0 k r hr 1 _ rfl
    have hgl := hSL6.blk.lt
    have hgs : g40 ≠ s := by have := hSL6.low; omega
    have hsl : s < w6.drew.heap.size := hS6.lt
    have hsl' : s < w6.heap.size := hS6.lt
    have hS6d : StrL w6.drew s L (a + 2) := hS6.ext (Ext.drew (Ext.refl _))
    have hBwl := hBw6.lt
    have hBws : w.heap.size ≠ s := by omega
    have hcl : ∀ u, ExtS s w6.drew u → Calls Tryd.prog 21 #[.slice r.p r.n r.c] u fun e w' => ∃ v, e = .returned v ∧ w'.ownsRow u.heap.size 30 4 v r.n (x.cs.flatMap i4C) ∧ Ext u w' := fun u hu => cloneIv_any r.p r.n r.c x.cs u ((hrc.ext (Ext.drew (Ext.refl _))).extS hu fun a ha => by have := (hrb a ha).1; omega) (by rw [hrn]; omega)
    have hrn4 : r.n ≤ 2 := by rw [hrn]; exact hx3
    replace hSL6 := Lib.hid hSL6
    replace hrc := Lib.hid hrc
    replace hrb := Lib.hid hrb
    replace hcl := Lib.hid hcl
    refine wp_region_facts [0, 1] [([], false, false), ([], false, false), ([], false, false), ([], false, false), ([3], false, false), ([3, 4], false, false), ([3, 4, 5], false, false), ([], false, false), ([7], false, false), ([7, 8], false, false), ([7, 8, 9], false, false), ([7, 8, 9, 10], false, false), ([3, 4, 5, 6, 7, 8, 9, 10, 11], false, true), ([2, 3, 4, 5, 6, 7, 8, 9, 10, 11, 12], true, false), ([], false, false), ([14], false, false), ([14, 15], false, false), ([14, 15, 16], false, false), ([14, 15, 16, 17], false, false), ([], false, false), ([19], true, false), ([], false, false), ([19, 20, 21], false, true)] (ExtS s) Ext (fun w => StrL w s L (a + 2)) (by kernel_rfl) (by kernel_rfl) Ext.refl (fun _ _ _ => ExtS.trans) (fun _ _ h => h.extS) (fun _ _ h => h.2.2.2.1) (fun _ _ h he => h.ext he) hS6d ?_
    dsimp only [List.length_cons, List.length_nil, List.drop_succ_cons, List.drop_zero, List.drop_nil]
    refine fac_late 0 rfl rfl Ext.refl (fun _ _ h he => h.ext he) rfl rfl (fun _ _ _ _ h => h) ?_
    apply Exists.intro
    refine ⟨fun sv w' hw' hfa => ?_, ?_⟩
    · refine ⟨rfl, fun w2 => ?_⟩
      simp only [putsL]
      change pureTo _ _ (Sem.run _ (execOp (Act.eval _) _) _)
      try simp only [Act.put, List.setIfInBounds_toArray, List.set_cons_succ, List.set_cons_zero]
      simp [go_sem, pureTo]
      all_goals try simp (disch := omega) only [IntWalk.i64_in]
      all_goals first
        | rfl
    refine fac_late 1 rfl rfl Ext.refl (fun _ _ h he => h.ext he) rfl rfl (fun _ _ _ _ h => h) ?_
    apply Exists.intro
    refine ⟨fun sv w' hw' hfa => ?_, ?_⟩
    · refine ⟨rfl, fun w2 => ?_⟩
      simp only [putsL]
      change pureTo _ _ (Sem.run _ (execOp (Act.eval _) _) _)
      try simp only [Act.put, List.setIfInBounds_toArray, List.set_cons_succ, List.set_cons_zero]
      simp [go_sem, pureTo]
      all_goals try simp (disch := omega) only [IntWalk.i64_in]
      all_goals first
        | rfl
    refine fac_quiet 2 rfl rfl rfl (fun _ _ h he => h.ext he) rfl rfl ?_
    apply Exists.intro
    refine ⟨fun sv w' hw' hfa => ?_, ?_⟩
    · refine ⟨rfl, ?_⟩
      simp only [putsL]
      change quietTo _ _ _ _ (Sem.run _ (execOp (Act.eval _) _) _)
      try simp only [Act.put, List.setIfInBounds_toArray, List.set_cons_succ, List.set_cons_zero]
      simp [go_sem, quietTo, Ext.refl]
      all_goals first
        | rfl
    refine fac_quiet 3 rfl rfl rfl (fun _ _ h he => h.ext he) rfl rfl ?_
    apply Exists.intro
    refine ⟨fun sv w' hw' hfa => ?_, ?_⟩
    · refine ⟨rfl, ?_⟩
      simp only [putsL]
      change quietTo _ _ _ _ (Sem.run _ (execOp (Act.eval _) _) _)
      try simp only [Act.put, List.setIfInBounds_toArray, List.set_cons_succ, List.set_cons_zero]
      simp [go_sem, quietTo, Ext.refl]
      all_goals first
        | rfl
    refine fac_quiet 4 rfl rfl rfl (fun _ _ h he => h.ext he) rfl rfl ?_
    apply Exists.intro
    refine ⟨fun sv w' hw' hfa => ?_, ?_⟩
    · obtain ⟨f3, -⟩ := hfa
      replace f3 : sv 3 = _ := f3
      try dsimp only at f3
      refine ⟨rfl, ?_⟩
      simp only [putsL]
      change quietTo _ _ _ _ (Sem.run _ (execOp (Act.eval (Act.put _ (some 68) (sv 3))) _) _)
      try simp only [Act.put, List.setIfInBounds_toArray, List.set_cons_succ, List.set_cons_zero]
      simp [go_sem, quietTo, Ext.refl, f3]
      all_goals first
        | rfl
    refine fac_quiet 5 rfl rfl rfl (fun _ _ h he => h.ext he) rfl rfl ?_
    apply Exists.intro
    refine ⟨fun sv w' hw' hfa => ?_, ?_⟩
    · obtain ⟨_, f4, -⟩ := hfa
      replace f4 : sv 4 = _ := f4
      try dsimp only at f4
      refine ⟨rfl, ?_⟩
      simp only [putsL]
      change quietTo _ _ _ _ (Sem.run _ (execOp (Act.eval (Act.put (Act.put _ (some 69) (sv 4)) (some 68) (sv 3))) _) _)
      try simp only [Act.put, List.setIfInBounds_toArray, List.set_cons_succ, List.set_cons_zero]
      simp [go_sem, quietTo, Ext.refl, f4]
      all_goals first
        | rfl
    refine fac_quiet 6 rfl rfl rfl (fun _ _ h he => h.ext he) rfl rfl ?_
    apply Exists.intro
    refine ⟨fun sv w' hw' hfa => ?_, ?_⟩
    · obtain ⟨_, _, f5, -⟩ := hfa
      replace f5 : sv 5 = _ := f5
      try dsimp only at f5
      have d0 : w'.cell? ⟨g40, k * 2, none⟩ = some (.int .i64 x.size) := (hw'.cell hgl hgs _).trans c0
      have d1 : w'.cell? ⟨g40, k * 2 + 1, none⟩ = some (.slice r.p r.n r.c) := (hw'.cell hgl hgs _).trans c1
      have d2 := (hw'.cell hBwl hBws 0).trans (hBw6.cell 0)
      have d3 := (hw'.cell hBwl hBws 1).trans (hBw6.cell 1)
      have d4 := (hw'.cell hBwl hBws 2).trans (hBw6.cell 2)
      have d5 := (hw'.cell hBwl hBws 3).trans (hBw6.cell 3)
      refine ⟨rfl, ?_⟩
      simp only [putsL]
      change quietTo _ _ _ _ (Sem.run _ (execOp (Act.eval (Act.put (Act.put (Act.put _ (some 70) (sv 5)) (some 69) (sv 4)) (some 68) (sv 3))) _) _)
      try simp only [Act.put, List.setIfInBounds_toArray, List.set_cons_succ, List.set_cons_zero]
      simp [go_sem, quietTo, Ext.refl, ↓IntWalk.iteOmega, f5, d0]
      all_goals try simp (disch := omega) only [IntWalk.i64_in]
      all_goals first
        | rfl
    refine fac_quiet 7 rfl rfl rfl (fun _ _ h he => h.ext he) rfl rfl ?_
    apply Exists.intro
    refine ⟨fun sv w' hw' hfa => ?_, ?_⟩
    · refine ⟨rfl, ?_⟩
      simp only [putsL]
      change quietTo _ _ _ _ (Sem.run _ (execOp (Act.eval _) _) _)
      try simp only [Act.put, List.setIfInBounds_toArray, List.set_cons_succ, List.set_cons_zero]
      simp [go_sem, quietTo, Ext.refl]
      all_goals first
        | rfl
    refine fac_quiet 8 rfl rfl rfl (fun _ _ h he => h.ext he) rfl rfl ?_
    apply Exists.intro
    refine ⟨fun sv w' hw' hfa => ?_, ?_⟩
    · obtain ⟨f7, -⟩ := hfa
      replace f7 : sv 7 = _ := f7
      try dsimp only at f7
      refine ⟨rfl, ?_⟩
      simp only [putsL]
      change quietTo _ _ _ _ (Sem.run _ (execOp (Act.eval (Act.put _ (some 72) (sv 7))) _) _)
      try simp only [Act.put, List.setIfInBounds_toArray, List.set_cons_succ, List.set_cons_zero]
      simp [go_sem, quietTo, Ext.refl, f7]
      all_goals first
        | rfl
    refine fac_quiet 9 rfl rfl rfl (fun _ _ h he => h.ext he) rfl rfl ?_
    apply Exists.intro
    refine ⟨fun sv w' hw' hfa => ?_, ?_⟩
    · obtain ⟨_, f8, -⟩ := hfa
      replace f8 : sv 8 = _ := f8
      try dsimp only at f8
      refine ⟨rfl, ?_⟩
      simp only [putsL]
      change quietTo _ _ _ _ (Sem.run _ (execOp (Act.eval (Act.put (Act.put _ (some 73) (sv 8)) (some 72) (sv 7))) _) _)
      try simp only [Act.put, List.setIfInBounds_toArray, List.set_cons_succ, List.set_cons_zero]
      simp [go_sem, quietTo, Ext.refl, f8]
      all_goals first
        | rfl
    refine fac_quiet 10 rfl rfl rfl (fun _ _ h he => h.ext he) rfl rfl ?_
    apply Exists.intro
    refine ⟨fun sv w' hw' hfa => ?_, ?_⟩
    · obtain ⟨_, _, f9, -⟩ := hfa
      replace f9 : sv 9 = _ := f9
      try dsimp only at f9
      have d0 : w'.cell? ⟨g40, k * 2, none⟩ = some (.int .i64 x.size) := (hw'.cell hgl hgs _).trans c0
      have d1 : w'.cell? ⟨g40, k * 2 + 1, none⟩ = some (.slice r.p r.n r.c) := (hw'.cell hgl hgs _).trans c1
      have d2 := (hw'.cell hBwl hBws 0).trans (hBw6.cell 0)
      have d3 := (hw'.cell hBwl hBws 1).trans (hBw6.cell 1)
      have d4 := (hw'.cell hBwl hBws 2).trans (hBw6.cell 2)
      have d5 := (hw'.cell hBwl hBws 3).trans (hBw6.cell 3)
      refine ⟨rfl, ?_⟩
      simp only [putsL]
      change quietTo _ _ _ _ (Sem.run _ (execOp (Act.eval (Act.put (Act.put (Act.put _ (some 74) (sv 9)) (some 73) (sv 8)) (some 72) (sv 7))) _) _)
      try simp only [Act.put, List.setIfInBounds_toArray, List.set_cons_succ, List.set_cons_zero]
      simp [go_sem, quietTo, Ext.refl, ↓IntWalk.iteOmega, f9, d0]
      all_goals try simp (disch := omega) only [IntWalk.i64_in]
      all_goals first
        | rfl
    refine fac_quiet 11 rfl rfl rfl (fun _ _ h he => h.ext he) rfl rfl ?_
    apply Exists.intro
    refine ⟨fun sv w' hw' hfa => ?_, ?_⟩
    · obtain ⟨_, _, _, f10, -⟩ := hfa
      replace f10 : sv 10 = _ := f10
      try dsimp only at f10
      refine ⟨rfl, ?_⟩
      simp only [putsL]
      change quietTo _ _ _ _ (Sem.run _ (execOp (Act.eval (Act.put (Act.put (Act.put (Act.put _ (some 75) (sv 10)) (some 74) (sv 9)) (some 73) (sv 8)) (some 72) (sv 7))) _) _)
      try simp only [Act.put, List.setIfInBounds_toArray, List.set_cons_succ, List.set_cons_zero]
      simp [go_sem, quietTo, Ext.refl, ↓IntWalk.iteOmega, f10]
      all_goals try simp (disch := omega) only [IntWalk.i64_in]
      all_goals first
        | rfl
    refine fac_row 12 rfl rfl rfl (fun _ _ h he => h.ext he) (fun _ _ h => h.2.2.2.1) (fun _ _ _ _ _ he hg hb => hb.extS (Nat.ne_of_gt (Nat.lt_of_lt_of_le hsl hg)) he) ?_
    apply Exists.intro
    apply Exists.intro
    apply Exists.intro
    apply Exists.intro
    refine ⟨fun sv w' hw' hfa => ?_, ?_⟩
    · obtain ⟨_, _, _, f6, _, _, _, _, f11, -⟩ := hfa
      replace f6 : sv 6 = _ := f6
      try dsimp only at f6
      replace f11 : sv 11 = _ := f11
      try dsimp only at f11
      refine ⟨rfl, ?_⟩
      simp only [putsL]
      change rowTo _ _ _ _ _ (Sem.run _ (execOp (Act.eval (Act.put (Act.put (Act.put (Act.put (Act.put (Act.put (Act.put (Act.put (Act.put _ (some 76) (sv 11)) (some 75) (sv 10)) (some 74) (sv 9)) (some 73) (sv 8)) (some 72) (sv 7)) (some 71) (sv 6)) (some 70) (sv 5)) (some 69) (sv 4)) (some 68) (sv 3))) _) _)
      try simp only [Act.put, List.setIfInBounds_toArray, List.set_cons_succ, List.set_cons_zero]
      simp [go_sem, rowTo, Ext.refl, f6, f11]
      all_goals try simp (disch := omega) only [IntWalk.i64_in]
      all_goals first
        | rfl
        | exact ⟨rfl, rfl⟩
        | exact ⟨⟨rfl, rfl⟩, rfl⟩
    refine fac_loud 13 rfl rfl rfl ?_
    refine ⟨(fun y _ => y 13 = .int .i64 sz), (fun w => StrL w s L (a + 2 + 1)), fun sv w' hw' hfa hcc => ?_, ?_, ?_, ?_⟩
    · obtain ⟨f2, f3, f4, f5, f6, f7, f8, f9, f10, f11, f12, -⟩ := hfa
      replace f2 : sv 2 = _ := f2
      try dsimp only at f2
      replace f3 : sv 3 = _ := f3
      try dsimp only at f3
      replace f4 : sv 4 = _ := f4
      try dsimp only at f4
      replace f5 : sv 5 = _ := f5
      try dsimp only at f5
      replace f6 : sv 6 = _ := f6
      try dsimp only at f6
      replace f7 : sv 7 = _ := f7
      try dsimp only at f7
      replace f8 : sv 8 = _ := f8
      try dsimp only at f8
      replace f9 : sv 9 = _ := f9
      try dsimp only at f9
      replace f10 : sv 10 = _ := f10
      try dsimp only at f10
      replace f11 : sv 11 = _ := f11
      try dsimp only at f11
      obtain ⟨g12, f12, l12, b12⟩ := f12
      replace f12 : sv 12 = _ := f12
      obtain ⟨p12, q12⟩ := b12.walk
      have d0 : w'.cell? ⟨g40, k * 2, none⟩ = some (.int .i64 x.size) := (hw'.cell hgl hgs _).trans c0
      have d1 : w'.cell? ⟨g40, k * 2 + 1, none⟩ = some (.slice r.p r.n r.c) := (hw'.cell hgl hgs _).trans c1
      have d2 := (hw'.cell hBwl hBws 0).trans (hBw6.cell 0)
      have d3 := (hw'.cell hBwl hBws 1).trans (hBw6.cell 1)
      have d4 := (hw'.cell hBwl hBws 2).trans (hBw6.cell 2)
      have d5 := (hw'.cell hBwl hBws 3).trans (hBw6.cell 3)
      refine ⟨rfl, ?_⟩
      simp only [putsL]
      change outc _ _ (Sem.run _ (execOp (Act.eval (Act.put (Act.put (Act.put (Act.put (Act.put (Act.put (Act.put (Act.put (Act.put (Act.put (Act.put _ (some 77) (sv 12)) (some 76) (sv 11)) (some 75) (sv 10)) (some 74) (sv 9)) (some 73) (sv 8)) (some 72) (sv 7)) (some 71) (sv 6)) (some 70) (sv 5)) (some 69) (sv 4)) (some 68) (sv 3)) (some 67) (sv 2))) _) _)
      try simp only [Act.put, List.setIfInBounds_toArray, List.set_cons_succ, List.set_cons_zero]
      simp [go_sem, outc, f2, f12, p12, q12]
      refine (pick_det s (a + 2) _ _ 3 [x.size, x.size + 1, 25] L _ (by omega) (by simp) (by simp) hcc (by omega) b12).mono ?_
      rintro e w4 ⟨rfl, hS4, hE4⟩
      exact ⟨_, rfl, ⟨hE4, hS4⟩, by rw [← hsz.out]; rfl⟩
    · intro x w w' h he; exact h
    · exact fun _ _ h he => h.ext he
    refine fac_quiet 14 rfl rfl rfl (fun _ _ h he => h.ext he) rfl rfl ?_
    apply Exists.intro
    refine ⟨fun sv w' hw' hfa => ?_, ?_⟩
    · refine ⟨rfl, ?_⟩
      simp only [putsL]
      change quietTo _ _ _ _ (Sem.run _ (execOp (Act.eval _) _) _)
      try simp only [Act.put, List.setIfInBounds_toArray, List.set_cons_succ, List.set_cons_zero]
      simp [go_sem, quietTo, Ext.refl]
      all_goals first
        | rfl
    refine fac_quiet 15 rfl rfl rfl (fun _ _ h he => h.ext he) rfl rfl ?_
    apply Exists.intro
    refine ⟨fun sv w' hw' hfa => ?_, ?_⟩
    · obtain ⟨f14, -⟩ := hfa
      replace f14 : sv 14 = _ := f14
      try dsimp only at f14
      refine ⟨rfl, ?_⟩
      simp only [putsL]
      change quietTo _ _ _ _ (Sem.run _ (execOp (Act.eval (Act.put _ (some 79) (sv 14))) _) _)
      try simp only [Act.put, List.setIfInBounds_toArray, List.set_cons_succ, List.set_cons_zero]
      simp [go_sem, quietTo, Ext.refl, f14]
      all_goals first
        | rfl
    refine fac_quiet 16 rfl rfl rfl (fun _ _ h he => h.ext he) rfl rfl ?_
    apply Exists.intro
    refine ⟨fun sv w' hw' hfa => ?_, ?_⟩
    · obtain ⟨_, f15, -⟩ := hfa
      replace f15 : sv 15 = _ := f15
      try dsimp only at f15
      refine ⟨rfl, ?_⟩
      simp only [putsL]
      change quietTo _ _ _ _ (Sem.run _ (execOp (Act.eval (Act.put (Act.put _ (some 80) (sv 15)) (some 79) (sv 14))) _) _)
      try simp only [Act.put, List.setIfInBounds_toArray, List.set_cons_succ, List.set_cons_zero]
      simp [go_sem, quietTo, Ext.refl, f15]
      all_goals first
        | rfl
    refine fac_quiet 17 rfl rfl rfl (fun _ _ h he => h.ext he) rfl rfl ?_
    apply Exists.intro
    refine ⟨fun sv w' hw' hfa => ?_, ?_⟩
    · obtain ⟨_, _, f16, -⟩ := hfa
      replace f16 : sv 16 = _ := f16
      try dsimp only at f16
      have d0 : w'.cell? ⟨g40, k * 2, none⟩ = some (.int .i64 x.size) := (hw'.cell hgl hgs _).trans c0
      have d1 : w'.cell? ⟨g40, k * 2 + 1, none⟩ = some (.slice r.p r.n r.c) := (hw'.cell hgl hgs _).trans c1
      have d2 := (hw'.cell hBwl hBws 0).trans (hBw6.cell 0)
      have d3 := (hw'.cell hBwl hBws 1).trans (hBw6.cell 1)
      have d4 := (hw'.cell hBwl hBws 2).trans (hBw6.cell 2)
      have d5 := (hw'.cell hBwl hBws 3).trans (hBw6.cell 3)
      refine ⟨rfl, ?_⟩
      simp only [putsL]
      change quietTo _ _ _ _ (Sem.run _ (execOp (Act.eval (Act.put (Act.put (Act.put _ (some 81) (sv 16)) (some 80) (sv 15)) (some 79) (sv 14))) _) _)
      try simp only [Act.put, List.setIfInBounds_toArray, List.set_cons_succ, List.set_cons_zero]
      simp [go_sem, quietTo, Ext.refl, ↓IntWalk.iteOmega, f16, d1]
      all_goals try simp (disch := omega) only [IntWalk.i64_in]
      all_goals first
        | rfl
    refine fac_any 18 rfl rfl rfl (fun _ _ h he => h.ext he) ?_
    refine ⟨(fun y u => u.ownsRow w6.heap.size 30 4 (y 18) r.n (x.cs.flatMap i4C)), fun sv w' hw' hfa => ?_, ?_, ?_⟩
    · obtain ⟨f14, f15, f16, f17, -⟩ := hfa
      replace f14 : sv 14 = _ := f14
      try dsimp only at f14
      replace f15 : sv 15 = _ := f15
      try dsimp only at f15
      replace f16 : sv 16 = _ := f16
      try dsimp only at f16
      replace f17 : sv 17 = _ := f17
      try dsimp only at f17
      have d0 : w'.cell? ⟨g40, k * 2, none⟩ = some (.int .i64 x.size) := (hw'.cell hgl hgs _).trans c0
      have d1 : w'.cell? ⟨g40, k * 2 + 1, none⟩ = some (.slice r.p r.n r.c) := (hw'.cell hgl hgs _).trans c1
      have d2 := (hw'.cell hBwl hBws 0).trans (hBw6.cell 0)
      have d3 := (hw'.cell hBwl hBws 1).trans (hBw6.cell 1)
      have d4 := (hw'.cell hBwl hBws 2).trans (hBw6.cell 2)
      have d5 := (hw'.cell hBwl hBws 3).trans (hBw6.cell 3)
      refine ⟨rfl, ?_⟩
      simp only [putsL]
      change outc _ _ (Sem.run _ (execOp (Act.eval (Act.put (Act.put (Act.put (Act.put _ (some 82) (sv 17)) (some 81) (sv 16)) (some 80) (sv 15)) (some 79) (sv 14))) _) _)
      try simp only [Act.put, List.setIfInBounds_toArray, List.set_cons_succ, List.set_cons_zero]
      simp [go_sem, outc, f17]
      refine (hcl.out _ hw').mono ?_
      rintro e w9 ⟨v9, rfl, ho9, hb9⟩
      exact ⟨_, rfl, hb9, own_low ho9 (by have := hw'.2.2.2.1; simpa using this)⟩
    · exact fun x w w' h2 he => own_extS he hsl' h2
    refine fac_quiet 19 rfl rfl rfl (fun _ _ h he => h.ext he) rfl rfl ?_
    apply Exists.intro
    refine ⟨fun sv w' hw' hfa => ?_, ?_⟩
    · refine ⟨rfl, ?_⟩
      simp only [putsL]
      change quietTo _ _ _ _ (Sem.run _ (execOp (Act.eval _) _) _)
      try simp only [Act.put, List.setIfInBounds_toArray, List.set_cons_succ, List.set_cons_zero]
      simp [go_sem, quietTo, Ext.refl]
      all_goals first
        | rfl
    refine fac_loud 20 rfl rfl rfl ?_
    refine ⟨(fun y _ => y 20 = .agg #[.int .i64 I.a, .int .i64 I.b, .int .i64 I.c, .int .i64 I.d]), (fun w => StrL w s L a3), fun sv w' hw' hfa hcc => ?_, ?_, ?_, ?_⟩
    · obtain ⟨f19, -⟩ := hfa
      replace f19 : sv 19 = _ := f19
      try dsimp only at f19
      have d0 : w'.cell? ⟨g40, k * 2, none⟩ = some (.int .i64 x.size) := (hw'.cell hgl hgs _).trans c0
      have d1 : w'.cell? ⟨g40, k * 2 + 1, none⟩ = some (.slice r.p r.n r.c) := (hw'.cell hgl hgs _).trans c1
      have d2 := (hw'.cell hBwl hBws 0).trans (hBw6.cell 0)
      have d3 := (hw'.cell hBwl hBws 1).trans (hBw6.cell 1)
      have d4 := (hw'.cell hBwl hBws 2).trans (hBw6.cell 2)
      have d5 := (hw'.cell hBwl hBws 3).trans (hBw6.cell 3)
      refine ⟨rfl, ?_⟩
      simp only [putsL]
      change outc _ _ (Sem.run _ (execOp (Act.eval (Act.put _ (some 84) (sv 19))) _) _)
      try simp only [Act.put, List.setIfInBounds_toArray, List.set_cons_succ, List.set_cons_zero]
      simp [go_sem, outc, f19]
      have hid := interval_det s (a + 2 + 1) L _ (by omega) hcc
      rw [hiv.out] at hid
      refine hid.mono ?_
      rintro e w4 ⟨rfl, hS4, hE4⟩
      exact ⟨_, rfl, ⟨hE4, hS4⟩, rfl⟩
    · intro x w w' h he; exact h
    · exact fun _ _ h he => h.ext he
    refine fac_quiet 21 rfl rfl rfl (fun _ _ h he => h.ext he) rfl rfl ?_
    apply Exists.intro
    refine ⟨fun sv w' hw' hfa => ?_, ?_⟩
    · have d0 : w'.cell? ⟨g40, k * 2, none⟩ = some (.int .i64 x.size) := (hw'.cell hgl hgs _).trans c0
      have d1 : w'.cell? ⟨g40, k * 2 + 1, none⟩ = some (.slice r.p r.n r.c) := (hw'.cell hgl hgs _).trans c1
      have d2 := (hw'.cell hBwl hBws 0).trans (hBw6.cell 0)
      have d3 := (hw'.cell hBwl hBws 1).trans (hBw6.cell 1)
      have d4 := (hw'.cell hBwl hBws 2).trans (hBw6.cell 2)
      have d5 := (hw'.cell hBwl hBws 3).trans (hBw6.cell 3)
      refine ⟨rfl, ?_⟩
      simp only [putsL]
      change quietTo _ _ _ _ (Sem.run _ (execOp (Act.eval _) _) _)
      try simp only [Act.put, List.setIfInBounds_toArray, List.set_cons_succ, List.set_cons_zero]
      simp [go_sem, quietTo, Ext.refl, ↓IntWalk.iteOmega, d2, d3, d4, d5]
      all_goals try simp (disch := omega) only [IntWalk.i64_in]
      all_goals first
        | rfl
    refine fac_row 22 rfl rfl rfl (fun _ _ h he => h.ext he) (fun _ _ h => h.2.2.2.1) (fun _ _ _ _ _ he hg hb => hb.extS (Nat.ne_of_gt (Nat.lt_of_lt_of_le hsl hg)) he) ?_
    apply Exists.intro
    apply Exists.intro
    apply Exists.intro
    apply Exists.intro
    refine ⟨fun sv w' hw' hfa => ?_, ?_⟩
    · obtain ⟨_, f20, f21, -⟩ := hfa
      replace f20 : sv 20 = _ := f20
      replace f21 : sv 21 = _ := f21
      try dsimp only at f21
      refine ⟨rfl, ?_⟩
      simp only [putsL]
      change rowTo _ _ _ _ _ (Sem.run _ (execOp (Act.eval (Act.put (Act.put (Act.put _ (some 86) (sv 21)) (some 85) (sv 20)) (some 84) (sv 19))) _) _)
      try simp only [Act.put, List.setIfInBounds_toArray, List.set_cons_succ, List.set_cons_zero]
      simp [go_sem, rowTo, Ext.refl, f20, f21]
      all_goals try simp (disch := omega) only [IntWalk.i64_in]
      all_goals first
        | rfl
        | exact ⟨rfl, rfl⟩
        | exact ⟨⟨rfl, rfl⟩, rfl⟩
    refine fac_nil fun xq wrq herq hfrq hcrq holdq hapq => ?_
    obtain ⟨f0, f1, f2, f3, f4, f5, f6, f7, f8, f9, f10, f11, f12, f13, f14, f15, f16, f17, f18, f19, f20, f21, f22, -⟩ := hfrq
    replace f0 : xq 0 = _ := f0
    try dsimp only at f0
    replace f1 : xq 1 = _ := f1
    try dsimp only at f1
    replace f2 : xq 2 = _ := f2
    try dsimp only at f2
    replace f3 : xq 3 = _ := f3
    try dsimp only at f3
    replace f4 : xq 4 = _ := f4
    try dsimp only at f4
    replace f5 : xq 5 = _ := f5
    try dsimp only at f5
    replace f6 : xq 6 = _ := f6
    try dsimp only at f6
    replace f7 : xq 7 = _ := f7
    try dsimp only at f7
    replace f8 : xq 8 = _ := f8
    try dsimp only at f8
    replace f9 : xq 9 = _ := f9
    try dsimp only at f9
    replace f10 : xq 10 = _ := f10
    try dsimp only at f10
    replace f11 : xq 11 = _ := f11
    try dsimp only at f11
    obtain ⟨g12, f12, l12, b12⟩ := f12
    replace f12 : xq 12 = _ := f12
    obtain ⟨p12, q12⟩ := b12.walk
    replace f13 : xq 13 = _ := f13
    replace f14 : xq 14 = _ := f14
    try dsimp only at f14
    replace f15 : xq 15 = _ := f15
    try dsimp only at f15
    replace f16 : xq 16 = _ := f16
    try dsimp only at f16
    replace f17 : xq 17 = _ := f17
    try dsimp only at f17
    have ho18 : (wrq).ownsRow w6.heap.size 30 4 (xq 18) r.n (x.cs.flatMap i4C) := f18
    replace f19 : xq 19 = _ := f19
    try dsimp only at f19
    replace f20 : xq 20 = _ := f20
    replace f21 : xq 21 = _ := f21
    try dsimp only at f21
    obtain ⟨g22, f22, l22, b22⟩ := f22
    replace f22 : xq 22 = _ := f22
    obtain ⟨p22, q22⟩ := b22.walk
    change wpList _ _ _ _ (Act.put (Act.put (Act.put (Act.put (Act.put (Act.put (Act.put (Act.put (Act.put (Act.put (Act.put (Act.put (Act.put (Act.put (Act.put (Act.put (Act.put (Act.put (Act.put (Act.put (Act.put (Act.put (Act.put _ (some 65) (xq 0)) (some 66) (xq 1)) (some 67) (xq 2)) (some 68) (xq 3)) (some 69) (xq 4)) (some 70) (xq 5)) (some 71) (xq 6)) (some 72) (xq 7)) (some 73) (xq 8)) (some 74) (xq 9)) (some 75) (xq 10)) (some 76) (xq 11)) (some 77) (xq 12)) (some 78) (xq 13)) (some 79) (xq 14)) (some 80) (xq 15)) (some 81) (xq 16)) (some 82) (xq 17)) (some 83) (xq 18)) (some 84) (xq 19)) (some 85) (xq 20)) (some 86) (xq 21)) (some 87) (xq 22)) _
    simp only [putsL, Nat.reduceAdd, List.drop_succ_cons, List.drop_zero, List.drop_nil, Act.put, List.setIfInBounds_toArray, List.set_cons_succ, List.set_cons_zero]
    try simp only [f0, f1, f2, f3, f4, f5, f6, f7, f8, f9, f10, f11, f12, f13, f14, f15, f16, f17, f18, f19, f20, f21, f22]
    clear f0 f1 f2 f3 f4 f5 f6 f7 f8 f9 f10 f11 f14 f15 f16 f17 f19 f21
    clear holdq hapq
    have hq6 : ExtS s w6 wrq := (ExtS.refl s w6).drew.trans herq
    generalize xq 18 = v18 at *
    have hYs : Slc 4 i4C wrq (some ⟨g22, 0, none⟩) 2 2 [I, ⟨-3, 2, 0, 0⟩] := slc_blk i4C_len (xs := [I, ⟨-3, 2, 0, 0⟩]) b22 (by simp)
    have hq6z := hq6.2.2.2.1
    have hSLq := hSL6.out.extS l0 hq6
    have hSq : StrL wrq s L a3 := hcrq
    have hEwq := hEw6.trans hq6
    go_upto_region 8 with (at_builtin; go_loud (refine wp_appS _ (.tmp 83) (.tmp 87) 35 30 4 32 _ rfl rfl Tryd.underlying35 ivInfo4 rfl (by decide) (by decide) i4C i4C_len i4C_one w6.heap.size _ r.n _ rfl ho18 _ 2 2 _ rfl hYs (by omega) hq6z ?_; intro v9 w9 hown9 hgrow9; obtain ⟨g9, c9, rfl, hb9, hnc9⟩ := hown9.form (by omega); have hownH := Lib.hid hown9; have hq9 : ExtS s w6 w9 := hq6.app ho18 (Nat.le_refl _) hgrow9; have hSL9 := hSL6.out.extS l0 hq9; have c09 := (hq9.cell hgl hgs (k * 2)).trans c0; have c19 := (hq9.cell hgl hgs (k * 2 + 1)).trans c1; obtain ⟨-, zf9⟩ := hSL9.blk.walk; have hgl9 := hSL9.blk.lt))
    have hown9 := hownH.out
    have hS9 : StrL w9 s L a3 := hSq.app ho18 hsl' hgrow9
    have hE9 := hEw6.trans hq9
    obtain ⟨p9, c9', e9, hSl9⟩ := slc_of_own (enc := i4C) i4C_len (xs := x.cs ++ [I, ⟨-3, 2, 0, 0⟩]) (by rw [List.flatMap_append]; exact hown9) (by decide) (by omega)
    cases e9
    have hlow9 : ∀ a, (some ⟨g9, 0, none⟩ : Option Addr) = some a → w6.heap.size ≤ a.block := fun a ha => by
      have := hown9.lt a.block (by rw [ha]; rfl)
      exact this.1
    have hn9 : r.n + 2 = (x.cs ++ [I, ⟨-3, 2, 0, 0⟩]).length := by rw [hrn]; simp
    have hp9g : ∀ a, (some ⟨g9, 0, none⟩ : Option Addr) = some a → w.heap.size ≤ a.block ∧ a.block ≠ g40 := fun a ha => by
      have h1 := hlow9 a ha
      have h2 := hEw6.2.2.2.1
      exact ⟨by omega, by omega⟩
    have hA1 := hSL9.set (k := k) (j := 0) (r1 := ⟨sz, r.p, r.n, r.c⟩) (x1 := ⟨sz, x.cs⟩) (v := .int .i64 sz) hr (by decide) rfl rfl hrn ((hrc.out.extS hq9 fun a ha => by have := (hrb.out a ha).1; omega)) (fun a ha => hrb.out a ha)
    have hR1 : (R0.set k ⟨sz, r.p, r.n, r.c⟩)[k]? = some ⟨sz, r.p, r.n, r.c⟩ := List.getElem?_set_self (List.getElem?_eq_some_iff.1 hr).1
    have hA2 := hA1.set (k := k) (j := 1) (r1 := ⟨sz, some ⟨g9, 0, none⟩, r.n + 2, c9⟩) (x1 := ⟨sz, x.cs ++ [I, ⟨-3, 2, 0, 0⟩]⟩) (v := .slice (some ⟨g9, 0, none⟩) (r.n + 2) c9) hR1 (by decide) rfl rfl hn9 (hSl9.setC (fun a ha => (hp9g a ha).2) _) hp9g
    rw [List.set_set, List.set_set] at hA2
    have hG40 : w.heap.size ≤ g40 := hSL9.low
    have hz1 := hS9.set (p := ⟨g40, k * 2 + 0, none⟩) (by simp only; omega) (.int .i64 sz)
    have hz2 := hz1.set (p := ⟨g40, k * 2 + 1, none⟩) (by simp only; omega) (.slice (some ⟨g9, 0, none⟩) (r.n + 2) c9)
    have hy1 := hE9.setCell (p := ⟨g40, k * 2 + 0, none⟩) (.inr hG40) (.int .i64 sz)
    have hy2 := hy1.setCell (p := ⟨g40, k * 2 + 1, none⟩) (.inr hG40) (.slice (some ⟨g9, 0, none⟩) (r.n + 2) c9)
    have hR2 : (R0.set k ⟨sz, some ⟨g9, 0, none⟩, r.n + 2, c9⟩)[k]? = some ⟨sz, some ⟨g9, 0, none⟩, r.n + 2, c9⟩ := List.getElem?_set_self (List.getElem?_eq_some_iff.1 hr).1
    simp only [Nat.add_zero] at hA2 hz2 hy2
    clear hA1 hz1 hy1 hS9 hE9 hSL9 hown9 hownH hgrow9 hq9 hSq hSLq hEwq hYs c09 c19 zf9 hR1
    rw [hrn] at hA2 hz2 hy2 hR2
    obtain ⟨f3, hf3⟩ : ∃ b, flF L a3 3 = b := ⟨_, rfl⟩
    have hF4 := hF3.out
    rw [hf3] at hF4
    go_upto_if 94 with (go_at_call 8; go_loud (refine (flip_det s a3 3 L _ (by omega) (by omega) (by omega) (by exact hz2)).mono ?_; rw [hf3]; rintro e w11 ⟨rfl, hS11, hE11⟩))
    have hA11 := hA2.extS l0 hE11
    have hE12 := hy2.trans hE11
    have hl9 : stX0.length = 9 := rfl
    cases f3
    · simp only [Bool.false_eq_true, if_false] at hF4
      obtain ⟨rfl, rfl⟩ := hF4
      go_wp2
      go_ret
      have hm := hA11.m
      rw [List.length_set, hl9] at hm
      exact ⟨g40, rfl, hm, hS11, hE12⟩
    · simp only [if_true] at hF4
      obtain ⟨rfl, rfl⟩ := hF4
      have hA12 := hA11.set (k := k) (j := 1) (r1 := ⟨sz, none, 0, 0⟩) (x1 := ⟨sz, []⟩) (v := .slice none 0 0) hR2 (by decide) rfl rfl rfl (Slc.nil _ _ _) (fun a ha => by cases ha)
      rw [List.set_set, List.set_set] at hA12
      have c12 : w11.cell? ⟨g40, k * 2 + 1, none⟩ = some (.slice (some ⟨g9, 0, none⟩) (x.cs.length + 2) c9) := by
        rw [hA11.blk.cell, List.getElem?_toArray]
        exact flat_at stpC_len _ k _ hR2 1 _ rfl
      obtain ⟨-, zf12⟩ := hA11.blk.walk
      have hgl12 := hA11.blk.lt
      have hS13 := hS11.set (p := ⟨g40, k * 2 + 1, none⟩) (by simp only; omega) (.slice none 0 0)
      have hE13 := hE12.setCell (p := ⟨g40, k * 2 + 1, none⟩) (.inr hG40) (.slice none 0 0)
      go_wp2
      go_ret
      have hm := hA12.m
      rw [List.length_set, hl9] at hm
      exact ⟨g40, rfl, hm, hS13, hE13⟩
end Go.Proofs.YtapjekpjekdlkaaDoor
