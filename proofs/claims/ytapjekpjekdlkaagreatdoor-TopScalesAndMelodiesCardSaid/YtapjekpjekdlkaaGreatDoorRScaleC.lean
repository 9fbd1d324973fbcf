/- What is wrong with a scale, by the document's text. Conditions: as each theorem says. -/
import Derived.Test.YtapjekpjekdlkaaGreatDoorRScaleB
set_option linter.unusedSimpArgs false
set_option linter.unusedVariables false
namespace Go.Proofs.YtapjekpjekdlkaaGreatDoor
open Go Go.RowKit

set_option maxRecDepth 100000 in
theorem refOctave_any (w : World) :
    Calls Tryz.prog 38 #[] w fun e w' => e = .returned (.agg #[.int .i64 1, .int .i64 0, .int .i64 0, .int .i64 0]) ∧ Ext w w' := by
  go_enter Tryz.func38, Tryz.ntmps38
  go_wp2
  go_light
  exact bodyPost_ret (v := .agg #[.int .i64 1, .int .i64 0, .int .i64 0, .int .i64 0]) (by simp [results, Tryz.results38, go_sem]) rfl ⟨rfl, (by (repeat (with_reducible first | assumption | exact Ext.refl _ | refine Ext.drew ?_ | refine Ext.alloc ?_ _ | refine Ext.setCell ?_ (by simp <;> omega) _ | refine Ext.trans ?_ (by assumption))))⟩

set_option maxRecDepth 100000 in
set_option maxHeartbeats 1600000 in
theorem refScale_any (xs : List I4) (w : World) (hl : xs.length = 12) :
    Calls Tryz.prog 15 #[.agg (sc xs)] w fun e w' => ∃ v : Int, e = .returned (.int .i64 v) ∧ (v = 0 → ScaleOk xs) ∧ Ext w w' := by
  have hG := Blk.new' (w := w) (t := 29) (cs := sc xs) rfl
  have hgl := hG.lt
  have hr := sc_rows hG
  have hi := sc_info hl
  have hl' := Lib.hid hl
  have hG' := Lib.hid hG
  clear hG
  go_enter Tryz.func15, Tryz.ntmps15
  go_upto_region 2 with (refine wpList_load_row rfl 29 _ rfl w.heap.size rfl 29 (sc xs) (0, 0) _ hG'.out Tryz.underlying29 rfl hi ?_)
  clear hi hl
  have he0 : Ext w (w.alloc (.cells (sc xs) 29)) := (Ext.refl w).alloc _
  generalize w.alloc (.cells (sc xs) 29) = W at hG' hgl hr he0 ⊢
  go_loopw [8] (fun i wr => ∃ k : Nat, k ≤ 12 ∧ i = .int .i64 k ∧ RightTo xs k ∧ Ext W wr) (fun i _ => 12 - (intOf i).toNat)
  case atStart => exact ⟨0, by omega, rfl, (fun j x hj => by omega), Ext.refl _⟩
  case round =>
    obtain ⟨k, hk, rfl, hz, he⟩ := hrel
    by_cases hlt : k < 12
    · obtain ⟨x, hx⟩ := getD_some hl'.out hlt
      have hidx := fun u => index_sc u hl'.out hx
      replace hx := Lib.hid hx
      replace hz := Lib.hid hz
      cases hb : rightB x
      · have hF : faultI x = 1 := by unfold faultI; rw [hb]; rfl
        have hcall := fun u => intervalFault_any x u
        rw [hF] at hcall
        replace hcall := Lib.hid hcall
        replace hF := Lib.hid hF
        go_wp2_with (go_at_call 36; (with_reducible refine Calls.mono (hcall.out _) ?_); rintro e w1 ⟨rfl, hb1⟩)
        go_ret
        exact ⟨1, rfl, (fun h => by cases h), (by (repeat (with_reducible first | assumption | exact Ext.refl _ | refine Ext.drew ?_ | refine Ext.alloc ?_ _ | refine Ext.setCell ?_ (by simp <;> omega) _ | refine Ext.trans ?_ (by assumption))))⟩
      · have hF : faultI x = 0 := by unfold faultI; rw [hb]; rfl
        have hcall := fun u => intervalFault_any x u
        rw [hF] at hcall
        replace hcall := Lib.hid hcall
        replace hF := Lib.hid hF
        go_wp2_with (go_at_call 36; (with_reducible refine Calls.mono (hcall.out _) ?_); rintro e w1 ⟨rfl, hb1⟩)
        go_roundw
        case rel => exact ⟨k + 1, by omega, by go_num, hz.out.succ hx.out hb, (by (repeat (with_reducible first | assumption | exact Ext.refl _ | refine Ext.drew ?_ | refine Ext.alloc ?_ _ | refine Ext.setCell ?_ (by simp <;> omega) _ | refine Ext.trans ?_ (by assumption))))⟩
        case measure => simp [intOf]; omega
    · obtain rfl : k = 12 := by omega
      have hright : ∀ x ∈ xs, rightB x = true := fun x hx => by
        obtain ⟨i, hi, e⟩ := List.getElem_of_mem hx
        exact hz i x (by rw [← hl'.out]; exact hi) (by rw [List.getElem?_eq_getElem hi, e])
      have hrw := hr.ext he hgl
      have hglw := Nat.lt_of_lt_of_le hgl he.size
      obtain ⟨x0, hx0⟩ := getD_some hl'.out (show 0 < 12 by omega)
      obtain ⟨c0, c1, c2, c3⟩ := hrw.at_ hx0
      simp only [Nat.zero_mul, Nat.zero_add] at c0 c1 c2 c3
      replace hx0 := Lib.hid hx0
      clear hz hG' hr
      rw [show ((12 : Nat) : Int) = 12 from rfl]
      by_cases hzero : x0 = zeroI
      · subst hzero
        replace c0 : wr.cell? ⟨w.heap.size, 0, none⟩ = some (.int .i64 0) := c0
        replace c1 : wr.cell? ⟨w.heap.size, 1, none⟩ = some (.int .i64 0) := c1
        replace c2 : wr.cell? ⟨w.heap.size, 2, none⟩ = some (.int .i64 0) := c2
        replace c3 : wr.cell? ⟨w.heap.size, 3, none⟩ = some (.int .i64 0) := c3
        go_wp2
        clear c0 c1 c2 c3
        have he1 := he0.trans he
        clear he he0
        generalize w.heap.size = g at *
        generalize wr = W1 at *
        clear hgl
        go_loopw [21] (fun i wr => ∃ k : Nat, k ≤ 11 ∧ i = .int .i64 k ∧ (∀ j x y, j < k → xs[j]? = some x → xs[j + 1]? = some y → cmpI x y = -1) ∧ Ext W1 wr) (fun i _ => 11 - (intOf i).toNat)
        case atStart => exact ⟨0, by omega, rfl, (fun j x y hj => by omega), Ext.refl _⟩
        case round =>
          obtain ⟨k, hk2, rfl, hz, he⟩ := hrel
          have hrv := hrw.ext he hglw
          have hglv := Nat.lt_of_lt_of_le hglw he.size
          by_cases hlt2 : k < 11
          · obtain ⟨x, hx⟩ := getD_some hl'.out (show k < 12 by omega)
            obtain ⟨y, hy⟩ := getD_some hl'.out (show k + 1 < 12 by omega)
            have hcmp := fun u => byHeight_any x y u (hright x (List.mem_of_getElem? hx)) (hright y (List.mem_of_getElem? hy))
            obtain ⟨a0, a1, a2, a3⟩ := hrv.at_ hx
            obtain ⟨b0, b1, b2, b3⟩ := hrv.at_ hy
            have hzn : cmpI x y = -1 → ∀ j x y, j < k + 1 → xs[j]? = some x → xs[j + 1]? = some y → cmpI x y = -1 := fun hc j x' y' hj hx' hy' => by
              by_cases e : j = k
              · subst e
                rw [hx] at hx'; cases hx'
                rw [hy] at hy'; cases hy'
                exact hc
              · exact hz j x' y' (by omega) hx' hy'
            have h3 := cmpI_three x y
            generalize hce : cmpI x y = cv at *
            replace hx := Lib.hid hx
            replace hy := Lib.hid hy
            replace hce := Lib.hid hce
            replace hzn := Lib.hid hzn
            replace hz := Lib.hid hz
            replace hcmp := Lib.hid hcmp
            have hj1 : (k : Int) + 1 < 12 := by omega
            have hj2 : 0 ≤ (k : Int) + 1 := by omega
            have hj3 : (k : Int) < 12 := by omega
            have hj4 : ((k : Int) + 1).toNat = k + 1 := by omega
            go_upto_region 13 with fail
            refine wp_region_facts [] [([], false, false), ([0], false, false), ([0, 1], false, false), ([], false, false), ([3], false, false), ([3, 4], false, false), ([3, 4, 5], false, false), ([0, 1, 2, 3, 4, 5, 6], false, false), ([0, 1, 2, 3, 4, 5, 6, 7], false, false)] (Ext) Ext (fun _ => True) (by kernel_rfl) (by kernel_rfl) Ext.refl (fun _ _ _ => Ext.trans) (fun _ _ h => h) (fun _ _ h => h.size) (fun _ _ h _ => h) trivial ?_
            dsimp only [List.length_cons, List.length_nil, List.drop_succ_cons, List.drop_zero, List.drop_nil]
            refine fac_quiet 0 rfl rfl rfl (fun _ _ h _ => h) rfl rfl ?_
            apply Exists.intro
            refine ⟨fun sv w' hw' hfa => ?_, ?_⟩
            · refine ⟨rfl, ?_⟩
              simp only [putsL]
              change quietTo _ _ _ _ (Sem.run _ (execOp (Act.eval _) _) _)
              try simp only [Act.put, List.setIfInBounds_toArray, List.set_cons_succ, List.set_cons_zero]
              simp [go_sem, quietTo, Ext.refl]
              all_goals first
                | rfl
            refine fac_quiet 1 rfl rfl rfl (fun _ _ h _ => h) rfl rfl ?_
            apply Exists.intro
            refine ⟨fun sv w' hw' hfa => ?_, ?_⟩
            · obtain ⟨f0, -⟩ := hfa
              replace f0 : sv 0 = _ := f0
              try dsimp only at f0
              obtain ⟨hc, hf, hz9⟩ := ((Ext.refl wr).drew.trans hw').walk; have y0 := (hc _ _ hglv).trans a0; have y1 := (hc _ _ hglv).trans a1; have y2 := (hc _ _ hglv).trans a2; have y3 := (hc _ _ hglv).trans a3; have z0 := (hc _ _ hglv).trans b0; have z1 := (hc _ _ hglv).trans b1; have z2 := (hc _ _ hglv).trans b2; have z3 := (hc _ _ hglv).trans b3
              refine ⟨rfl, ?_⟩
              simp only [putsL]
              change quietTo _ _ _ _ (Sem.run _ (execOp (Act.eval (Act.put _ (some 24) (sv 0))) _) _)
              try simp only [Act.put, List.setIfInBounds_toArray, List.set_cons_succ, List.set_cons_zero]
              simp [go_sem, quietTo, Ext.refl, ↓IntWalk.iteOmega, f0, hj3]
              all_goals try simp (disch := omega) only [IntWalk.i64_in]
              all_goals first
                | rfl
            refine fac_quiet 2 rfl rfl rfl (fun _ _ h _ => h) rfl rfl ?_
            apply Exists.intro
            refine ⟨fun sv w' hw' hfa => ?_, ?_⟩
            · obtain ⟨_, f1, -⟩ := hfa
              replace f1 : sv 1 = _ := f1
              try dsimp only at f1
              obtain ⟨hc, hf, hz9⟩ := ((Ext.refl wr).drew.trans hw').walk; have y0 := (hc _ _ hglv).trans a0; have y1 := (hc _ _ hglv).trans a1; have y2 := (hc _ _ hglv).trans a2; have y3 := (hc _ _ hglv).trans a3; have z0 := (hc _ _ hglv).trans b0; have z1 := (hc _ _ hglv).trans b1; have z2 := (hc _ _ hglv).trans b2; have z3 := (hc _ _ hglv).trans b3
              refine ⟨rfl, ?_⟩
              simp only [putsL]
              change quietTo _ _ _ _ (Sem.run _ (execOp (Act.eval (Act.put (Act.put _ (some 25) (sv 1)) (some 24) (sv 0))) _) _)
              try simp only [Act.put, List.setIfInBounds_toArray, List.set_cons_succ, List.set_cons_zero]
              simp [go_sem, quietTo, Ext.refl, ↓IntWalk.iteOmega, f1, y0, y1, y2, y3, hj3]
              all_goals try simp (disch := omega) only [IntWalk.i64_in]
              all_goals first
                | rfl
            refine fac_quiet 3 rfl rfl rfl (fun _ _ h _ => h) rfl rfl ?_
            apply Exists.intro
            refine ⟨fun sv w' hw' hfa => ?_, ?_⟩
            · refine ⟨rfl, ?_⟩
              simp only [putsL]
              change quietTo _ _ _ _ (Sem.run _ (execOp (Act.eval _) _) _)
              try simp only [Act.put, List.setIfInBounds_toArray, List.set_cons_succ, List.set_cons_zero]
              simp [go_sem, quietTo, Ext.refl]
              all_goals first
                | rfl
            refine fac_quiet 4 rfl rfl rfl (fun _ _ h _ => h) rfl rfl ?_
            apply Exists.intro
            refine ⟨fun sv w' hw' hfa => ?_, ?_⟩
            · obtain ⟨f3, -⟩ := hfa
              replace f3 : sv 3 = _ := f3
              try dsimp only at f3
              obtain ⟨hc, hf, hz9⟩ := ((Ext.refl wr).drew.trans hw').walk; have y0 := (hc _ _ hglv).trans a0; have y1 := (hc _ _ hglv).trans a1; have y2 := (hc _ _ hglv).trans a2; have y3 := (hc _ _ hglv).trans a3; have z0 := (hc _ _ hglv).trans b0; have z1 := (hc _ _ hglv).trans b1; have z2 := (hc _ _ hglv).trans b2; have z3 := (hc _ _ hglv).trans b3
              refine ⟨rfl, ?_⟩
              simp only [putsL]
              change quietTo _ _ _ _ (Sem.run _ (execOp (Act.eval (Act.put _ (some 27) (sv 3))) _) _)
              try simp only [Act.put, List.setIfInBounds_toArray, List.set_cons_succ, List.set_cons_zero]
              simp [go_sem, quietTo, Ext.refl, ↓IntWalk.iteOmega, f3, hj1, hj2]
              all_goals try simp (disch := omega) only [IntWalk.i64_in]
              all_goals first
                | rfl
            refine fac_quiet 5 rfl rfl rfl (fun _ _ h _ => h) rfl rfl ?_
            apply Exists.intro
            refine ⟨fun sv w' hw' hfa => ?_, ?_⟩
            · obtain ⟨_, f4, -⟩ := hfa
              replace f4 : sv 4 = _ := f4
              try dsimp only at f4
              obtain ⟨hc, hf, hz9⟩ := ((Ext.refl wr).drew.trans hw').walk; have y0 := (hc _ _ hglv).trans a0; have y1 := (hc _ _ hglv).trans a1; have y2 := (hc _ _ hglv).trans a2; have y3 := (hc _ _ hglv).trans a3; have z0 := (hc _ _ hglv).trans b0; have z1 := (hc _ _ hglv).trans b1; have z2 := (hc _ _ hglv).trans b2; have z3 := (hc _ _ hglv).trans b3
              refine ⟨rfl, ?_⟩
              simp only [putsL]
              change quietTo _ _ _ _ (Sem.run _ (execOp (Act.eval (Act.put (Act.put _ (some 28) (sv 4)) (some 27) (sv 3))) _) _)
              try simp only [Act.put, List.setIfInBounds_toArray, List.set_cons_succ, List.set_cons_zero]
              simp [go_sem, quietTo, Ext.refl, ↓IntWalk.iteOmega, f4, hj1, hj2, hj4]
              all_goals try simp (disch := omega) only [IntWalk.i64_in]
              all_goals first
                | rfl
            refine fac_quiet 6 rfl rfl rfl (fun _ _ h _ => h) rfl rfl ?_
            apply Exists.intro
            refine ⟨fun sv w' hw' hfa => ?_, ?_⟩
            · obtain ⟨_, _, f5, -⟩ := hfa
              replace f5 : sv 5 = _ := f5
              try dsimp only at f5
              obtain ⟨hc, hf, hz9⟩ := ((Ext.refl wr).drew.trans hw').walk; have y0 := (hc _ _ hglv).trans a0; have y1 := (hc _ _ hglv).trans a1; have y2 := (hc _ _ hglv).trans a2; have y3 := (hc _ _ hglv).trans a3; have z0 := (hc _ _ hglv).trans b0; have z1 := (hc _ _ hglv).trans b1; have z2 := (hc _ _ hglv).trans b2; have z3 := (hc _ _ hglv).trans b3
              refine ⟨rfl, ?_⟩
              simp only [putsL]
              change quietTo _ _ _ _ (Sem.run _ (execOp (Act.eval (Act.put (Act.put (Act.put _ (some 29) (sv 5)) (some 28) (sv 4)) (some 27) (sv 3))) _) _)
              try simp only [Act.put, List.setIfInBounds_toArray, List.set_cons_succ, List.set_cons_zero]
              simp [go_sem, quietTo, Ext.refl, ↓IntWalk.iteOmega, f5, z0, z1, z2, z3, hj1, hj2, hj4]
              all_goals try simp (disch := omega) only [IntWalk.i64_in]
              all_goals first
                | rfl
            refine fac_quiet 7 rfl rfl rfl (fun _ _ h _ => h) rfl rfl ?_
            apply Exists.intro
            refine ⟨fun sv w' hw' hfa => ?_, ?_⟩
            · obtain ⟨f0, f1, f2, f3, f4, f5, f6, -⟩ := hfa
              replace f0 : sv 0 = _ := f0
              try dsimp only at f0
              replace f1 : sv 1 = _ := f1
              try dsimp only at f1
              replace f2 : sv 2 = _ := f2
              try dsimp only at f2
              replace f3 : sv 3 = _ := f3
              try dsimp only at f3
              replace f4 : sv 4 = _ := f4
              try dsimp only at f4
              replace f5 : sv 5 = _ := f5
              try dsimp only at f5
              replace f6 : sv 6 = _ := f6
              try dsimp only at f6
              obtain ⟨hc, hf, hz9⟩ := ((Ext.refl wr).drew.trans hw').walk; have y0 := (hc _ _ hglv).trans a0; have y1 := (hc _ _ hglv).trans a1; have y2 := (hc _ _ hglv).trans a2; have y3 := (hc _ _ hglv).trans a3; have z0 := (hc _ _ hglv).trans b0; have z1 := (hc _ _ hglv).trans b1; have z2 := (hc _ _ hglv).trans b2; have z3 := (hc _ _ hglv).trans b3
              refine ⟨rfl, ?_⟩
              simp only [putsL]
              change quietTo _ _ _ _ (Sem.run _ (execOp (Act.eval (Act.put (Act.put (Act.put (Act.put (Act.put (Act.put (Act.put _ (some 30) (sv 6)) (some 29) (sv 5)) (some 28) (sv 4)) (some 27) (sv 3)) (some 26) (sv 2)) (some 25) (sv 1)) (some 24) (sv 0))) _) _)
              try simp only [Act.put, List.setIfInBounds_toArray, List.set_cons_succ, List.set_cons_zero]
              simp [go_sem, quietTo, Ext.refl, ↓IntWalk.iteOmega, f2, f6]
              all_goals try simp (disch := omega) only [IntWalk.i64_in]
              all_goals first
                | rfl
                | (exact hcmp.out _)
            refine fac_quiet 8 rfl rfl rfl (fun _ _ h _ => h) rfl rfl ?_
            apply Exists.intro
            refine ⟨fun sv w' hw' hfa => ?_, ?_⟩
            · obtain ⟨_, _, _, _, _, _, _, f7, -⟩ := hfa
              replace f7 : sv 7 = _ := f7
              try dsimp only at f7
              refine ⟨rfl, ?_⟩
              simp only [putsL]
              change quietTo _ _ _ _ (Sem.run _ (execOp (Act.eval (Act.put (Act.put (Act.put (Act.put (Act.put (Act.put (Act.put (Act.put _ (some 31) (sv 7)) (some 30) (sv 6)) (some 29) (sv 5)) (some 28) (sv 4)) (some 27) (sv 3)) (some 26) (sv 2)) (some 25) (sv 1)) (some 24) (sv 0))) _) _)
              try simp only [Act.put, List.setIfInBounds_toArray, List.set_cons_succ, List.set_cons_zero]
              simp [go_sem, quietTo, Ext.refl, ↓IntWalk.iteOmega, f7]
              all_goals try simp (disch := omega) only [IntWalk.i64_in]
              all_goals first
                | rfl
            refine fac_nil fun xb wrb herb hfrb hcrb holdb hapb => ?_
            obtain ⟨f0, f1, f2, f3, f4, f5, f6, f7, f8, -⟩ := hfrb
            replace f0 : xb 0 = _ := f0
            try dsimp only at f0
            replace f1 : xb 1 = _ := f1
            try dsimp only at f1
            replace f2 : xb 2 = _ := f2
            try dsimp only at f2
            replace f3 : xb 3 = _ := f3
            try dsimp only at f3
            replace f4 : xb 4 = _ := f4
            try dsimp only at f4
            replace f5 : xb 5 = _ := f5
            try dsimp only at f5
            replace f6 : xb 6 = _ := f6
            try dsimp only at f6
            replace f7 : xb 7 = _ := f7
            try dsimp only at f7
            replace f8 : xb 8 = _ := f8
            try dsimp only at f8
            change wpList _ _ _ _ (Act.put (Act.put (Act.put (Act.put (Act.put (Act.put (Act.put (Act.put (Act.put _ (some 24) (xb 0)) (some 25) (xb 1)) (some 26) (xb 2)) (some 27) (xb 3)) (some 28) (xb 4)) (some 29) (xb 5)) (some 30) (xb 6)) (some 31) (xb 7)) (some 32) (xb 8)) _
            simp only [putsL, Nat.reduceAdd, List.drop_succ_cons, List.drop_zero, List.drop_nil, Act.put, List.setIfInBounds_toArray, List.set_cons_succ, List.set_cons_zero]
            try simp only [f0, f1, f2, f3, f4, f5, f6, f7, f8]
            clear f0 f1 f2 f3 f4 f5 f6 f7 f8
            clear holdb hapb
            clear a0 a1 a2 a3 b0 b1 b2 b3 hcmp
            rcases h3 with rfl | rfl | rfl
            · go_wp2
              go_roundw
              case rel => exact ⟨k + 1, by omega, by go_num, hzn.out rfl, he.trans ((Ext.refl _).drew.trans herb)⟩
              case measure => simp [intOf]; omega
            all_goals
              go_wp2
              go_ret
              exact ⟨7, rfl, (fun h => by cases h), (he1.trans he).trans ((Ext.refl _).drew.trans herb)⟩
          · obtain rfl : k = 11 := by omega
            obtain ⟨x, hx⟩ := getD_some hl'.out (show 11 < 12 by omega)
            have hcmp := fun u => byHeight_any x ⟨1, 0, 0, 0⟩ u (hright x (List.mem_of_getElem? hx)) (by decide)
            obtain ⟨a0, a1, a2, a3⟩ := hrv.at_ hx
            simp only [Nat.reduceMul, Nat.reduceAdd] at a0 a1 a2 a3
            have h3 := cmpI_three x ⟨1, 0, 0, 0⟩
            have hok : cmpI x ⟨1, 0, 0, 0⟩ = -1 → ScaleOk xs := fun hc => ⟨hl'.out, hright, hx0.out, fun j x' y' hx' hy' => hz j x' y' (by have := (List.getElem?_eq_some_iff.1 hy').1; rw [hl'.out] at this; omega) hx' hy', fun x' hx' => by rw [hx] at hx'; cases hx'; exact hc⟩
            generalize hce : cmpI x ⟨1, 0, 0, 0⟩ = cv at *
            replace hx := Lib.hid hx
            replace hce := Lib.hid hce
            replace hok := Lib.hid hok
            replace hz := Lib.hid hz
            replace hcmp := Lib.hid hcmp
            rw [show ((11 : Nat) : Int) = 11 from rfl]
            go_upto_region 16 with fail
            refine wp_region_facts [] [([], false, false), ([0], false, false), ([], false, false), ([0, 1, 2], false, false), ([0, 1, 2, 3], false, false)] (Ext) Ext (fun _ => True) (by kernel_rfl) (by kernel_rfl) Ext.refl (fun _ _ _ => Ext.trans) (fun _ _ h => h) (fun _ _ h => h.size) (fun _ _ h _ => h) trivial ?_
            dsimp only [List.length_cons, List.length_nil, List.drop_succ_cons, List.drop_zero, List.drop_nil]
            refine fac_quiet 0 rfl rfl rfl (fun _ _ h _ => h) rfl rfl ?_
            apply Exists.intro
            refine ⟨fun sv w' hw' hfa => ?_, ?_⟩
            · obtain ⟨hc, hf, hz9⟩ := ((Ext.refl wr).drew.trans hw').walk; have y0 := (hc _ _ hglv).trans a0; have y1 := (hc _ _ hglv).trans a1; have y2 := (hc _ _ hglv).trans a2; have y3 := (hc _ _ hglv).trans a3
              refine ⟨rfl, ?_⟩
              simp only [putsL]
              change quietTo _ _ _ _ (Sem.run _ (execOp (Act.eval _) _) _)
              try simp only [Act.put, List.setIfInBounds_toArray, List.set_cons_succ, List.set_cons_zero]
              simp [go_sem, quietTo, Ext.refl, ↓IntWalk.iteOmega, y0, y1, y2, y3]
              all_goals try simp (disch := omega) only [IntWalk.i64_in]
              all_goals first
                | rfl
            refine fac_quiet 1 rfl rfl rfl (fun _ _ h _ => h) rfl rfl ?_
            apply Exists.intro
            refine ⟨fun sv w' hw' hfa => ?_, ?_⟩
            · obtain ⟨f0, -⟩ := hfa
              replace f0 : sv 0 = _ := f0
              try dsimp only at f0
              obtain ⟨hc, hf, hz9⟩ := ((Ext.refl wr).drew.trans hw').walk; have y0 := (hc _ _ hglv).trans a0; have y1 := (hc _ _ hglv).trans a1; have y2 := (hc _ _ hglv).trans a2; have y3 := (hc _ _ hglv).trans a3
              refine ⟨rfl, ?_⟩
              simp only [putsL]
              change quietTo _ _ _ _ (Sem.run _ (execOp (Act.eval (Act.put _ (some 34) (sv 0))) _) _)
              try simp only [Act.put, List.setIfInBounds_toArray, List.set_cons_succ, List.set_cons_zero]
              simp [go_sem, quietTo, Ext.refl, ↓IntWalk.iteOmega, f0, y0, y1, y2, y3]
              all_goals try simp (disch := omega) only [IntWalk.i64_in]
              all_goals first
                | rfl
            refine fac_quiet 2 rfl rfl rfl (fun _ _ h _ => h) rfl rfl ?_
            apply Exists.intro
            refine ⟨fun sv w' hw' hfa => ?_, ?_⟩
            · obtain ⟨hc, hf, hz9⟩ := ((Ext.refl wr).drew.trans hw').walk; have y0 := (hc _ _ hglv).trans a0; have y1 := (hc _ _ hglv).trans a1; have y2 := (hc _ _ hglv).trans a2; have y3 := (hc _ _ hglv).trans a3
              refine ⟨rfl, ?_⟩
              simp only [putsL]
              change quietTo _ _ _ _ (Sem.run _ (execOp (Act.eval _) _) _)
              try simp only [Act.put, List.setIfInBounds_toArray, List.set_cons_succ, List.set_cons_zero]
              simp [go_sem, quietTo, Ext.refl, ↓IntWalk.iteOmega, y0, y1, y2, y3]
              all_goals try simp (disch := omega) only [IntWalk.i64_in]
              all_goals first
                | rfl
                | (exact refOctave_any _)
            refine fac_quiet 3 rfl rfl rfl (fun _ _ h _ => h) rfl rfl ?_
            apply Exists.intro
            refine ⟨fun sv w' hw' hfa => ?_, ?_⟩
            · obtain ⟨f0, f1, f2, -⟩ := hfa
              replace f0 : sv 0 = _ := f0
              try dsimp only at f0
              replace f1 : sv 1 = _ := f1
              try dsimp only at f1
              replace f2 : sv 2 = _ := f2
              try dsimp only at f2
              obtain ⟨hc, hf, hz9⟩ := ((Ext.refl wr).drew.trans hw').walk; have y0 := (hc _ _ hglv).trans a0; have y1 := (hc _ _ hglv).trans a1; have y2 := (hc _ _ hglv).trans a2; have y3 := (hc _ _ hglv).trans a3
              refine ⟨rfl, ?_⟩
              simp only [putsL]
              change quietTo _ _ _ _ (Sem.run _ (execOp (Act.eval (Act.put (Act.put (Act.put _ (some 36) (sv 2)) (some 35) (sv 1)) (some 34) (sv 0))) _) _)
              try simp only [Act.put, List.setIfInBounds_toArray, List.set_cons_succ, List.set_cons_zero]
              simp [go_sem, quietTo, Ext.refl, ↓IntWalk.iteOmega, f1, f2, y0, y1, y2, y3]
              all_goals try simp (disch := omega) only [IntWalk.i64_in]
              all_goals first
                | rfl
                | (exact hcmp.out _)
            refine fac_quiet 4 rfl rfl rfl (fun _ _ h _ => h) rfl rfl ?_
            apply Exists.intro
            refine ⟨fun sv w' hw' hfa => ?_, ?_⟩
            · obtain ⟨_, _, _, f3, -⟩ := hfa
              replace f3 : sv 3 = _ := f3
              try dsimp only at f3
              obtain ⟨hc, hf, hz9⟩ := ((Ext.refl wr).drew.trans hw').walk; have y0 := (hc _ _ hglv).trans a0; have y1 := (hc _ _ hglv).trans a1; have y2 := (hc _ _ hglv).trans a2; have y3 := (hc _ _ hglv).trans a3
              refine ⟨rfl, ?_⟩
              simp only [putsL]
              change quietTo _ _ _ _ (Sem.run _ (execOp (Act.eval (Act.put (Act.put (Act.put (Act.put _ (some 37) (sv 3)) (some 36) (sv 2)) (some 35) (sv 1)) (some 34) (sv 0))) _) _)
              try simp only [Act.put, List.setIfInBounds_toArray, List.set_cons_succ, List.set_cons_zero]
              simp [go_sem, quietTo, Ext.refl, ↓IntWalk.iteOmega, f3, y0, y1, y2, y3]
              all_goals try simp (disch := omega) only [IntWalk.i64_in]
              all_goals first
                | rfl
            refine fac_nil fun xb wrb herb hfrb hcrb holdb hapb => ?_
            obtain ⟨f0, f1, f2, f3, f4, -⟩ := hfrb
            replace f0 : xb 0 = _ := f0
            try dsimp only at f0
            replace f1 : xb 1 = _ := f1
            try dsimp only at f1
            replace f2 : xb 2 = _ := f2
            try dsimp only at f2
            replace f3 : xb 3 = _ := f3
            try dsimp only at f3
            replace f4 : xb 4 = _ := f4
            try dsimp only at f4
            change wpList _ _ _ _ (Act.put (Act.put (Act.put (Act.put (Act.put _ (some 34) (xb 0)) (some 35) (xb 1)) (some 36) (xb 2)) (some 37) (xb 3)) (some 38) (xb 4)) _
            simp only [putsL, Nat.reduceAdd, List.drop_succ_cons, List.drop_zero, List.drop_nil, Act.put, List.setIfInBounds_toArray, List.set_cons_succ, List.set_cons_zero]
            try simp only [f0, f1, f2, f3, f4]
            clear f0 f1 f2 f3 f4
            clear holdb hapb
            clear a0 a1 a2 a3 hcmp
            rcases h3 with rfl | rfl | rfl
            · go_wp2
              go_ret
              exact ⟨0, rfl, (fun _ => hok.out (by trivial)), (he1.trans he).trans ((Ext.refl _).drew.trans herb)⟩
            all_goals
              go_wp2
              go_ret
              exact ⟨7, rfl, (fun h => by cases h), (he1.trans he).trans ((Ext.refl _).drew.trans herb)⟩
      · replace hzero := Lib.hid hzero
        go_wp2
        all_goals first
          | (go_ret
             exact ⟨3, rfl, (fun h => by cases h), (by (repeat (with_reducible first | assumption | exact Ext.refl _ | refine Ext.drew ?_ | refine Ext.alloc ?_ _ | refine Ext.setCell ?_ (by simp <;> omega) _ | refine Ext.trans ?_ (by assumption))))⟩)
          | (exfalso
             refine hzero.out (I4.eq ?_ ?_ ?_ ?_) <;> assumption)
end Go.Proofs.YtapjekpjekdlkaaGreatDoor
