/- What is wrong with a scale, by both texts. Conditions: as each theorem says. -/
import Derived.Test.YtapjekpjekdlkaaGreatDoorRJ33
import Derived.Deep.DeepCutAuto
import Derived.Deep.Light
import Derived.Outline
set_option linter.unusedSimpArgs false
set_option linter.unusedVariables false
namespace Go.Proofs.YtapjekpjekdlkaaGreatDoor
open Go Go.RowKit

theorem sc_info {xs : List I4} (hl : xs.length = 12) : (Tryz.prog.info? 29).map (·.size) = some (sc xs).size := by
  rw [sc_size, hl]
  kernel_rfl
theorem Rows4.at_ {w : World} {g : Nat} {xs : List I4} (h : Rows4 w g 0 xs) {i : Nat} {x : I4} (hx : xs[i]? = some x) :
    w.cell? ⟨g, i * 4, none⟩ = some (.int .i64 x.a) ∧ w.cell? ⟨g, i * 4 + 1, none⟩ = some (.int .i64 x.b) ∧ w.cell? ⟨g, i * 4 + 2, none⟩ = some (.int .i64 x.c) ∧ w.cell? ⟨g, i * 4 + 3, none⟩ = some (.int .i64 x.d) := by
  have := h i x hx
  simp only [Nat.zero_add] at this
  exact this

set_option maxRecDepth 100000 in
set_option maxHeartbeats 1600000 in
theorem checkScale_ok (xs : List I4) (w : World) (h : ScaleOk xs) :
    Calls Tryz.prog 18 #[.agg (sc xs)] w fun e w' => e = .returned (.int .i64 0) ∧ Ext w w' := by
  have hl := h.len
  have hG := Blk.new' (w := w) (t := 29) (cs := sc xs) rfl
  have hck := checkAll_any w.heap.size 0 12 xs (w.alloc (.cells (sc xs) 29)) (by omega) (sc_rows hG) hG.lt
  rw [hl, faultAll_right h.right] at hck
  replace hG := Lib.hid hG
  have hl' := Lib.hid hl
  go_enter Tryz.func18, Tryz.ntmps18
  go_upto_region 4 with (go_at_call 39; (with_reducible refine Calls.mono hck ?_); rintro e w1 ⟨rfl, hb1⟩)
  have hG1 := hG.out.ext hb1
  have he1 : Ext w w1 := ((Ext.refl w).alloc _).trans hb1
  have hr1 := sc_rows hG1
  obtain ⟨c0, c1, c2, c3⟩ := hr1.at_ h.zero
  simp only [Nat.zero_mul, Nat.zero_add] at c0 c1 c2 c3
  replace c0 : w1.cell? ⟨w.heap.size, 0, none⟩ = some (.int .i64 0) := c0
  replace c1 : w1.cell? ⟨w.heap.size, 1, none⟩ = some (.int .i64 0) := c1
  replace c2 : w1.cell? ⟨w.heap.size, 2, none⟩ = some (.int .i64 0) := c2
  replace c3 : w1.cell? ⟨w.heap.size, 3, none⟩ = some (.int .i64 0) := c3
  have hgl := hG1.lt
  clear hck hb1 hG
  go_upto_region 6 with fail
  clear c0 c1 c2 c3
  go_wp2
  go_loopw [4] (fun i wr => ∃ j : Nat, j ≤ 11 ∧ i = .int .i64 ((j : Int) + 1) ∧ Ext w1 wr) (fun i _ => 12 - (intOf i).toNat)
  case atStart => exact ⟨0, by omega, rfl, Ext.refl _⟩
  case round =>
    obtain ⟨j, hj, rfl, he⟩ := hrel
    have hrw := hr1.ext he hgl
    have hglw := Nat.lt_of_lt_of_le hgl he.size
    by_cases hlt : j < 11
    · obtain ⟨x, hx⟩ := getD_some hl'.out (show j < 12 by omega)
      obtain ⟨y, hy⟩ := getD_some hl'.out (show j + 1 < 12 by omega)
      have hcm : cmpI y x = 1 := by rw [cmpI_neg, h.rise j x y hx hy]; rfl
      have hcmp := fun W => compare_any y x W (h.right y (List.mem_of_getElem? hy)) (h.right x (List.mem_of_getElem? hx))
      rw [hcm] at hcmp
      obtain ⟨a0, a1, a2, a3⟩ := hrw.at_ hx
      obtain ⟨b0, b1, b2, b3⟩ := hrw.at_ hy
      replace hx := Lib.hid hx
      replace hy := Lib.hid hy
      replace hcm := Lib.hid hcm
      replace hcmp := Lib.hid hcmp
      have hwj : IntKind.i64.wrap (j : Int) = j := IntWalk.i64_in _ (by omega)
      have hj1 : (j : Int) + 1 < 12 := by omega
      have hj2 : 0 ≤ (j : Int) + 1 := by omega
      have hj3 : (j : Int) < 12 := by omega
      have hj4 : ((j : Int) + 1).toNat = j + 1 := by omega
      clear hl
      go_upto_region 9 with fail
      refine wp_region_facts [] [([], false, false), ([0], false, false), ([0, 1], false, false), ([], false, false), ([3], false, false), ([3, 4], false, false), ([3, 4, 5], false, false), ([0, 1, 2, 3, 4, 5, 6], false, false), ([0, 1, 2, 3, 4, 5, 6, 7], false, false)] (Ext) Ext (fun _ => True) (by kernel_rfl) (by kernel_rfl) Ext.refl (fun _ _ _ => Ext.trans) (fun _ _ h => h) (fun _ _ h => h.size) (fun _ _ h _ => h) trivial ?_
      dsimp only [List.length_cons, List.length_nil, List.drop_succ_cons, List.drop_zero, List.drop_nil]
      refine fac_quiet 0 rfl rfl rfl (fun _ _ h _ => h) rfl rfl ?_
      apply Exists.intro
      refine ⟨fun sv w' hw' hfa => ?_, ?_⟩
      · refine ⟨rfl, ?_⟩
        simp only [putsL]
        change quietTo _ _ _ _ (Sem.run _ (execOp (Act.eval _) _) _)
        try simp only [Act.put, List.setIfInBounds_toArray, List.set_cons_succ, List.set_cons_zero]
        simp [go_sem, quietTo, Ext.refl]
        all_goals first
          | rfl
      refine fac_quiet 1 rfl rfl rfl (fun _ _ h _ => h) rfl rfl ?_
      apply Exists.intro
      refine ⟨fun sv w' hw' hfa => ?_, ?_⟩
      · obtain ⟨f0, -⟩ := hfa
        replace f0 : sv 0 = _ := f0
        try dsimp only at f0
        obtain ⟨hc, hf, hz9⟩ := ((Ext.refl wr).drew.trans hw').walk; have y0 := (hc _ _ hglw).trans a0; have y1 := (hc _ _ hglw).trans a1; have y2 := (hc _ _ hglw).trans a2; have y3 := (hc _ _ hglw).trans a3; have z0 := (hc _ _ hglw).trans b0; have z1 := (hc _ _ hglw).trans b1; have z2 := (hc _ _ hglw).trans b2; have z3 := (hc _ _ hglw).trans b3
        refine ⟨rfl, ?_⟩
        simp only [putsL]
        change quietTo _ _ _ _ (Sem.run _ (execOp (Act.eval (Act.put _ (some 18) (sv 0))) _) _)
        try simp only [Act.put, List.setIfInBounds_toArray, List.set_cons_succ, List.set_cons_zero]
        simp [go_sem, quietTo, Ext.refl, ↓IntWalk.iteOmega, f0, y0, y1, y2, y3, z0, z1, z2, z3, hwj, hj1, hj2, hj3, hj4]
        all_goals try simp (disch := omega) only [IntWalk.i64_in]
        all_goals first
          | rfl
      refine fac_quiet 2 rfl rfl rfl (fun _ _ h _ => h) rfl rfl ?_
      apply Exists.intro
      refine ⟨fun sv w' hw' hfa => ?_, ?_⟩
      · obtain ⟨_, f1, -⟩ := hfa
        replace f1 : sv 1 = _ := f1
        try dsimp only at f1
        obtain ⟨hc, hf, hz9⟩ := ((Ext.refl wr).drew.trans hw').walk; have y0 := (hc _ _ hglw).trans a0; have y1 := (hc _ _ hglw).trans a1; have y2 := (hc _ _ hglw).trans a2; have y3 := (hc _ _ hglw).trans a3; have z0 := (hc _ _ hglw).trans b0; have z1 := (hc _ _ hglw).trans b1; have z2 := (hc _ _ hglw).trans b2; have z3 := (hc _ _ hglw).trans b3
        refine ⟨rfl, ?_⟩
        simp only [putsL]
        change quietTo _ _ _ _ (Sem.run _ (execOp (Act.eval (Act.put (Act.put _ (some 19) (sv 1)) (some 18) (sv 0))) _) _)
        try simp only [Act.put, List.setIfInBounds_toArray, List.set_cons_succ, List.set_cons_zero]
        simp [go_sem, quietTo, Ext.refl, ↓IntWalk.iteOmega, f1, y0, y1, y2, y3, z0, z1, z2, z3, hwj, hj1, hj2, hj3, hj4]
        all_goals try simp (disch := omega) only [IntWalk.i64_in]
        all_goals first
          | rfl
      refine fac_quiet 3 rfl rfl rfl (fun _ _ h _ => h) rfl rfl ?_
      apply Exists.intro
      refine ⟨fun sv w' hw' hfa => ?_, ?_⟩
      · refine ⟨rfl, ?_⟩
        simp only [putsL]
        change quietTo _ _ _ _ (Sem.run _ (execOp (Act.eval _) _) _)
        try simp only [Act.put, List.setIfInBounds_toArray, List.set_cons_succ, List.set_cons_zero]
        simp [go_sem, quietTo, Ext.refl]
        all_goals first
          | rfl
      refine fac_quiet 4 rfl rfl rfl (fun _ _ h _ => h) rfl rfl ?_
      apply Exists.intro
      refine ⟨fun sv w' hw' hfa => ?_, ?_⟩
      · obtain ⟨f3, -⟩ := hfa
        replace f3 : sv 3 = _ := f3
        try dsimp only at f3
        obtain ⟨hc, hf, hz9⟩ := ((Ext.refl wr).drew.trans hw').walk; have y0 := (hc _ _ hglw).trans a0; have y1 := (hc _ _ hglw).trans a1; have y2 := (hc _ _ hglw).trans a2; have y3 := (hc _ _ hglw).trans a3; have z0 := (hc _ _ hglw).trans b0; have z1 := (hc _ _ hglw).trans b1; have z2 := (hc _ _ hglw).trans b2; have z3 := (hc _ _ hglw).trans b3
        refine ⟨rfl, ?_⟩
        simp only [putsL]
        change quietTo _ _ _ _ (Sem.run _ (execOp (Act.eval (Act.put _ (some 21) (sv 3))) _) _)
        try simp only [Act.put, List.setIfInBounds_toArray, List.set_cons_succ, List.set_cons_zero]
        simp [go_sem, quietTo, Ext.refl, ↓IntWalk.iteOmega, f3, y0, y1, y2, y3, z0, z1, z2, z3, hwj, hj1, hj2, hj3, hj4]
        all_goals try simp (disch := omega) only [IntWalk.i64_in]
        all_goals first
          | rfl
      refine fac_quiet 5 rfl rfl rfl (fun _ _ h _ => h) rfl rfl ?_
      apply Exists.intro
      refine ⟨fun sv w' hw' hfa => ?_, ?_⟩
      · obtain ⟨_, f4, -⟩ := hfa
        replace f4 : sv 4 = _ := f4
        try dsimp only at f4
        obtain ⟨hc, hf, hz9⟩ := ((Ext.refl wr).drew.trans hw').walk; have y0 := (hc _ _ hglw).trans a0; have y1 := (hc _ _ hglw).trans a1; have y2 := (hc _ _ hglw).trans a2; have y3 := (hc _ _ hglw).trans a3; have z0 := (hc _ _ hglw).trans b0; have z1 := (hc _ _ hglw).trans b1; have z2 := (hc _ _ hglw).trans b2; have z3 := (hc _ _ hglw).trans b3
        refine ⟨rfl, ?_⟩
        simp only [putsL]
        change quietTo _ _ _ _ (Sem.run _ (execOp (Act.eval (Act.put (Act.put _ (some 22) (sv 4)) (some 21) (sv 3))) _) _)
        try simp only [Act.put, List.setIfInBounds_toArray, List.set_cons_succ, List.set_cons_zero]
        simp [go_sem, quietTo, Ext.refl, ↓IntWalk.iteOmega, f4, y0, y1, y2, y3, z0, z1, z2, z3, hwj, hj1, hj2, hj3, hj4]
        all_goals try simp (disch := omega) only [IntWalk.i64_in]
        all_goals first
          | rfl
      refine fac_quiet 6 rfl rfl rfl (fun _ _ h _ => h) rfl rfl ?_
      apply Exists.intro
      refine ⟨fun sv w' hw' hfa => ?_, ?_⟩
      · obtain ⟨_, _, f5, -⟩ := hfa
        replace f5 : sv 5 = _ := f5
        try dsimp only at f5
        obtain ⟨hc, hf, hz9⟩ := ((Ext.refl wr).drew.trans hw').walk; have y0 := (hc _ _ hglw).trans a0; have y1 := (hc _ _ hglw).trans a1; have y2 := (hc _ _ hglw).trans a2; have y3 := (hc _ _ hglw).trans a3; have z0 := (hc _ _ hglw).trans b0; have z1 := (hc _ _ hglw).trans b1; have z2 := (hc _ _ hglw).trans b2; have z3 := (hc _ _ hglw).trans b3
        refine ⟨rfl, ?_⟩
        simp only [putsL]
        change quietTo _ _ _ _ (Sem.run _ (execOp (Act.eval (Act.put (Act.put (Act.put _ (some 23) (sv 5)) (some 22) (sv 4)) (some 21) (sv 3))) _) _)
        try simp only [Act.put, List.setIfInBounds_toArray, List.set_cons_succ, List.set_cons_zero]
        simp [go_sem, quietTo, Ext.refl, ↓IntWalk.iteOmega, f5, y0, y1, y2, y3, z0, z1, z2, z3, hwj, hj1, hj2, hj3, hj4]
        all_goals try simp (disch := omega) only [IntWalk.i64_in]
        all_goals first
          | rfl
      refine fac_quiet 7 rfl rfl rfl (fun _ _ h _ => h) rfl rfl ?_
      apply Exists.intro
      refine ⟨fun sv w' hw' hfa => ?_, ?_⟩
      · obtain ⟨f0, f1, f2, f3, f4, f5, f6, -⟩ := hfa
        replace f0 : sv 0 = _ := f0
        try dsimp only at f0
        replace f1 : sv 1 = _ := f1
        try dsimp only at f1
        replace f2 : sv 2 = _ := f2
        try dsimp only at f2
        replace f3 : sv 3 = _ := f3
        try dsimp only at f3
        replace f4 : sv 4 = _ := f4
        try dsimp only at f4
        replace f5 : sv 5 = _ := f5
        try dsimp only at f5
        replace f6 : sv 6 = _ := f6
        try dsimp only at f6
        obtain ⟨hc, hf, hz9⟩ := ((Ext.refl wr).drew.trans hw').walk; have y0 := (hc _ _ hglw).trans a0; have y1 := (hc _ _ hglw).trans a1; have y2 := (hc _ _ hglw).trans a2; have y3 := (hc _ _ hglw).trans a3; have z0 := (hc _ _ hglw).trans b0; have z1 := (hc _ _ hglw).trans b1; have z2 := (hc _ _ hglw).trans b2; have z3 := (hc _ _ hglw).trans b3
        refine ⟨rfl, ?_⟩
        simp only [putsL]
        change quietTo _ _ _ _ (Sem.run _ (execOp (Act.eval (Act.put (Act.put (Act.put (Act.put (Act.put (Act.put (Act.put _ (some 24) (sv 6)) (some 23) (sv 5)) (some 22) (sv 4)) (some 21) (sv 3)) (some 20) (sv 2)) (some 19) (sv 1)) (some 18) (sv 0))) _) _)
        try simp only [Act.put, List.setIfInBounds_toArray, List.set_cons_succ, List.set_cons_zero]
        simp [go_sem, quietTo, Ext.refl, ↓IntWalk.iteOmega, f2, f6, y0, y1, y2, y3, z0, z1, z2, z3, hwj, hj1, hj2, hj3, hj4]
        all_goals try simp (disch := omega) only [IntWalk.i64_in]
        all_goals first
          | rfl
          | (exact hcmp.out _)
      refine fac_quiet 8 rfl rfl rfl (fun _ _ h _ => h) rfl rfl ?_
      apply Exists.intro
      refine ⟨fun sv w' hw' hfa => ?_, ?_⟩
      · obtain ⟨_, _, _, _, _, _, _, f7, -⟩ := hfa
        replace f7 : sv 7 = _ := f7
        try dsimp only at f7
        obtain ⟨hc, hf, hz9⟩ := ((Ext.refl wr).drew.trans hw').walk; have y0 := (hc _ _ hglw).trans a0; have y1 := (hc _ _ hglw).trans a1; have y2 := (hc _ _ hglw).trans a2; have y3 := (hc _ _ hglw).trans a3; have z0 := (hc _ _ hglw).trans b0; have z1 := (hc _ _ hglw).trans b1; have z2 := (hc _ _ hglw).trans b2; have z3 := (hc _ _ hglw).trans b3
        refine ⟨rfl, ?_⟩
        simp only [putsL]
        change quietTo _ _ _ _ (Sem.run _ (execOp (Act.eval (Act.put (Act.put (Act.put (Act.put (Act.put (Act.put (Act.put (Act.put _ (some 25) (sv 7)) (some 24) (sv 6)) (some 23) (sv 5)) (some 22) (sv 4)) (some 21) (sv 3)) (some 20) (sv 2)) (some 19) (sv 1)) (some 18) (sv 0))) _) _)
        try simp only [Act.put, List.setIfInBounds_toArray, List.set_cons_succ, List.set_cons_zero]
        simp [go_sem, quietTo, Ext.refl, ↓IntWalk.iteOmega, f7, y0, y1, y2, y3, z0, z1, z2, z3, hwj, hj1, hj2, hj3, hj4]
        all_goals try simp (disch := omega) only [IntWalk.i64_in]
        all_goals first
          | rfl
      refine fac_nil fun xb wrb herb hfrb hcrb holdb hapb => ?_
      obtain ⟨f0, f1, f2, f3, f4, f5, f6, f7, f8, -⟩ := hfrb
      replace f0 : xb 0 = _ := f0
      try dsimp only at f0
      replace f1 : xb 1 = _ := f1
      try dsimp only at f1
      replace f2 : xb 2 = _ := f2
      try dsimp only at f2
      replace f3 : xb 3 = _ := f3
      try dsimp only at f3
      replace f4 : xb 4 = _ := f4
      try dsimp only at f4
      replace f5 : xb 5 = _ := f5
      try dsimp only at f5
      replace f6 : xb 6 = _ := f6
      try dsimp only at f6
      replace f7 : xb 7 = _ := f7
      try dsimp only at f7
      replace f8 : xb 8 = _ := f8
      try dsimp only at f8
      change wpList _ _ _ _ (Act.put (Act.put (Act.put (Act.put (Act.put (Act.put (Act.put (Act.put (Act.put _ (some 18) (xb 0)) (some 19) (xb 1)) (some 20) (xb 2)) (some 21) (xb 3)) (some 22) (xb 4)) (some 23) (xb 5)) (some 24) (xb 6)) (some 25) (xb 7)) (some 26) (xb 8)) _
      simp only [putsL, Nat.reduceAdd, List.drop_succ_cons, List.drop_zero, List.drop_nil, Act.put, List.setIfInBounds_toArray, List.set_cons_succ, List.set_cons_zero]
      try simp only [f0, f1, f2, f3, f4, f5, f6, f7, f8]
      clear f0 f1 f2 f3 f4 f5 f6 f7 f8
      clear holdb hapb
      clear a0 a1 a2 a3 b0 b1 b2 b3 hcmp
      go_wp2
      go_roundw
      case rel => exact ⟨j + 1, by omega, by go_num, he.trans ((Ext.refl _).drew.trans herb)⟩
      case measure => simp [intOf]; omega
    · obtain rfl : j = 11 := by omega
      obtain ⟨x, hx⟩ := getD_some hl'.out (show 11 < 12 by omega)
      have hcm := h.last x hx
      have hcmp := fun W => compare_any x ⟨1, 0, 0, 0⟩ W (h.right x (List.mem_of_getElem? hx)) (by decide)
      rw [hcm] at hcmp
      obtain ⟨a0, a1, a2, a3⟩ := hrw.at_ hx
      simp only [Nat.reduceMul, Nat.reduceAdd] at a0 a1 a2 a3
      replace hx := Lib.hid hx
      replace hcm := Lib.hid hcm
      replace hcmp := Lib.hid hcmp
      rw [show (((11 : Nat) : Int) + 1) = 12 from rfl]
      clear hl
      go_wp2_with (go_at_call 40; (with_reducible refine Calls.mono (hcmp.out _) ?_); rintro e w5 ⟨rfl, hb5⟩)
      go_ret
      exact ⟨rfl, (he1.trans he).trans hb5⟩
end Go.Proofs.YtapjekpjekdlkaaGreatDoor
