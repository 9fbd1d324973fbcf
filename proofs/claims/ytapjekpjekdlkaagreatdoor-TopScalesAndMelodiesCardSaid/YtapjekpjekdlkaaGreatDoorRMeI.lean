/- Steps checked, by tune's text. Conditions: they lie in memory. -/
import Derived.Test.YtapjekpjekdlkaaGreatDoorRMeH
set_option linter.unusedSimpArgs false
set_option linter.unusedVariables false
namespace Go.Proofs.YtapjekpjekdlkaaGreatDoor
open Go Go.RowKit

theorem sizeAt_of {X : List StepV} {i : Nat} {x : StepV} (h : X[i]? = some x) : sizeAt X i = x.size := by unfold sizeAt; rw [atL_of h]
theorem choicesAt_of {X : List StepV} {i : Nat} {x : StepV} (h : X[i]? = some x) : choicesAt X i = x.cs := by unfold choicesAt; rw [atL_of h]
set_option maxRecDepth 100000 in
set_option maxHeartbeats 3200000 in
theorem checkSteps_any {p : Option Addr} {n c : Nat} {X : List StepV} {w : World} (h : StpM w p n c X) :
    Calls Tryz.prog 50 #[.slice p n c] w fun e w' => e = .returned (.int .i64 (stepsF X)) ∧ Ext w w' := by
  have hF : stepsF X = if 25 < X.length then 2 else scanF X.length (stepF X) := rfl
  have hl := h.len
  obtain ⟨hnc, hn⟩ := h.le
  subst hl
  by_cases h4 : 25 < X.length
  · rw [if_pos h4] at hF
    replace hF := Lib.hid hF
    have h4I : (25 : Int) < X.length := by omega
    go_enter Tryz.func50, Tryz.ntmps50
    go_wp2
    go_ret
    exact ⟨ret_int hF.out.symm, Ext.refl _⟩
  rw [if_neg h4] at hF
  replace hF := Lib.hid hF
  have h4I : ¬ (25 : Int) < X.length := by omega
  go_enter Tryz.func50, Tryz.ntmps50
  go_wp2
  go_loopw [11] (fun i wr => ∃ k : Nat, k ≤ X.length ∧ i = .int .i64 k ∧ Zeros (stepF X) k ∧ Ext w wr) (fun i _ => X.length - (intOf i).toNat)
  case atStart => exact ⟨0, Nat.zero_le _, rfl, (fun j hj => by omega), Ext.refl _⟩
  case round =>
    obtain ⟨k, hk, rfl, hz, hE⟩ := hrel
    by_cases hlt : k < X.length
    · obtain ⟨x, hx⟩ := getD_some (rfl : X.length = X.length) hlt
      obtain ⟨b, off, q, d, rfl, hb, c1, c2, hS⟩ := (h.ext hE).at_ hx
      have hkI : (k : Int) < X.length := by omega
      have hF1 : stepF X k = if outB x.size (-24) 24 then 1 else if 0 < k ∧ x.size ≤ sizeAt X (k - 1) then 7 else choicesF x.cs := by unfold stepF; rw [sizeAt_of hx, choicesAt_of hx]
      obtain ⟨o, ho⟩ : ∃ o, outB x.size (-24) 24 = o := ⟨_, rfl⟩
      rw [ho] at hF1
      have hout := fun u => outside_any x.size (-24) 24 u
      simp only [ho] at hout
      clear ho
      have hEa : Ext wr (wr.alloc (.cells #[.int .i64 x.size, .slice q x.cs.length d] 41)) := (Ext.refl _).alloc _
      have hXa : Blk (wr.alloc (.cells #[.int .i64 x.size, .slice q x.cs.length d] 41)) wr.heap.size 41 #[.int .i64 x.size, .slice q x.cs.length d] := Blk.new' rfl
      cases o
      · simp only [Bool.false_eq_true, if_false] at hF1
        replace hF1 := Lib.hid hF1
        replace hout := Lib.hid hout
        have hEz : ∀ {u}, Ext (wr.alloc (.cells #[.int .i64 x.size, .slice q x.cs.length d] 41)) u → Ext w u := fun hu => (hE.trans hEa).trans hu
        have hcho := fun u (hu : Ext (wr.alloc (.cells #[.int .i64 x.size, .slice q x.cs.length d] 41)) u) => choicesFault_any ((hS.ext hEa).ext hu)
        replace hcho := Lib.hid hcho
        go_upto_region 8 with (go_at_call 19; (with_reducible refine Calls.mono (hout.out _) ?_); rintro e w1 ⟨rfl, rfl⟩)
        have hcx : ∀ y, X[k - 1]? = some y → (wr.alloc (.cells #[.int .i64 x.size, .slice q x.cs.length d] 41)).cell? ⟨b, off + (k - 1) * 2, none⟩ = some (.int .i64 y.size) := fun y hy => by
          obtain ⟨b', off', _, _, e, _, a1, _, _⟩ := (h.ext (hE.trans hEa)).at_ hy
          cases e; exact a1
        have hbl := Nat.lt_of_lt_of_le hb hEa.size
        generalize wr.alloc (.cells #[.int .i64 x.size, .slice q x.cs.length d] 41) = W1 at *
        generalize wr.heap.size = gX at *
        clear c1 c2 hEa
        cases k with
        | zero =>
          have hF2 := hF1.out
          rw [if_neg (by omega)] at hF2
          replace hF2 := Lib.hid hF2
          refine wp_region_facts [] [([], false, false), ([0], false, false), ([0, 1], false, false), ([0, 1, 2], false, false), ([0, 1, 2, 3], false, false), ([0, 1, 2], false, false), ([0, 1, 2], false, false), ([0, 1, 2, 6], false, false), ([0, 1, 2, 5, 6, 7], false, false), ([0, 1, 2, 5, 6, 7, 8], false, false), ([0, 1, 2, 5, 6, 7, 8, 9], false, false), ([0, 1, 2, 3, 4, 5, 6, 7, 8, 9, 10], false, false), ([0, 1, 2, 3, 4, 5, 6, 7, 8, 9, 10, 11], false, false)] (Ext) Ext (fun _ => True) (by kernel_rfl) (by kernel_rfl) Ext.refl (fun _ _ _ => Ext.trans) (fun _ _ h => h) (fun _ _ h => h.size) (fun _ _ h _ => h) trivial ?_
          dsimp only [List.length_cons, List.length_nil, List.drop_succ_cons, List.drop_zero, List.drop_nil]
          refine fac_quiet 0 rfl rfl rfl (fun _ _ h _ => h) rfl rfl ?_
          apply Exists.intro
          refine ⟨fun sv w' hw' hfa => ?_, ?_⟩
          · refine ⟨rfl, ?_⟩
            simp only [putsL]
            change quietTo _ _ _ _ (Sem.run _ (execOp (Act.eval _) _) _)
            try simp only [Act.put, List.setIfInBounds_toArray, List.set_cons_succ, List.set_cons_zero]
            simp [go_sem, quietTo, Ext.refl]
            all_goals first
              | rfl
          refine fac_quiet 1 rfl rfl rfl (fun _ _ h _ => h) rfl rfl ?_
          apply Exists.intro
          refine ⟨fun sv w' hw' hfa => ?_, ?_⟩
          · obtain ⟨f0, -⟩ := hfa
            replace f0 : sv 0 = _ := f0
            try dsimp only at f0
            refine ⟨rfl, ?_⟩
            simp only [putsL]
            change quietTo _ _ _ _ (Sem.run _ (execOp (Act.eval (Act.put _ (some 19) (sv 0))) _) _)
            try simp only [Act.put, List.setIfInBounds_toArray, List.set_cons_succ, List.set_cons_zero]
            simp [go_sem, quietTo, Ext.refl, ↓IntWalk.iteOmega, f0]
            all_goals try simp (disch := omega) only [IntWalk.i64_in]
            all_goals first
              | rfl
          refine fac_quiet 2 rfl rfl rfl (fun _ _ h _ => h) rfl rfl ?_
          apply Exists.intro
          refine ⟨fun sv w' hw' hfa => ?_, ?_⟩
          · obtain ⟨_, f1, -⟩ := hfa
            replace f1 : sv 1 = _ := f1
            try dsimp only at f1
            refine ⟨rfl, ?_⟩
            simp only [putsL]
            change quietTo _ _ _ _ (Sem.run _ (execOp (Act.eval (Act.put (Act.put _ (some 20) (sv 1)) (some 19) (sv 0))) _) _)
            try simp only [Act.put, List.setIfInBounds_toArray, List.set_cons_succ, List.set_cons_zero]
            simp [go_sem, quietTo, Ext.refl, f1]
            all_goals first
              | rfl
          refine fac_skip 3 rfl rfl rfl (fun _ _ h _ => h) Ext.refl ?_ ?_
          · intro sv w' hw' hfa
            obtain ⟨f0, f1, f2, -⟩ := hfa
            replace f0 : sv 0 = _ := f0
            try dsimp only at f0
            replace f1 : sv 1 = _ := f1
            try dsimp only at f1
            replace f2 : sv 2 = _ := f2
            try dsimp only at f2
            simp [Region.wanted, yielded, putsL, Act.put, f2]
          refine fac_skip 4 rfl rfl rfl (fun _ _ h _ => h) Ext.refl ?_ ?_
          · intro sv w' hw' hfa
            obtain ⟨f0, f1, f2, f3, -⟩ := hfa
            replace f0 : sv 0 = _ := f0
            try dsimp only at f0
            replace f1 : sv 1 = _ := f1
            try dsimp only at f1
            replace f2 : sv 2 = _ := f2
            try dsimp only at f2
            replace f3 : sv 3 = _ := f3
            try dsimp only at f3
            simp [Region.wanted, yielded, putsL, Act.put, f2, f3]
          refine fac_skip 5 rfl rfl rfl (fun _ _ h _ => h) Ext.refl ?_ ?_
          · intro sv w' hw' hfa
            obtain ⟨f0, f1, f2, -⟩ := hfa
            replace f0 : sv 0 = _ := f0
            try dsimp only at f0
            replace f1 : sv 1 = _ := f1
            try dsimp only at f1
            replace f2 : sv 2 = _ := f2
            try dsimp only at f2
            simp [Region.wanted, yielded, putsL, Act.put, f2]
          refine fac_skip 6 rfl rfl rfl (fun _ _ h _ => h) Ext.refl ?_ ?_
          · intro sv w' hw' hfa
            obtain ⟨f0, f1, f2, -⟩ := hfa
            replace f0 : sv 0 = _ := f0
            try dsimp only at f0
            replace f1 : sv 1 = _ := f1
            try dsimp only at f1
            replace f2 : sv 2 = _ := f2
            try dsimp only at f2
            simp [Region.wanted, yielded, putsL, Act.put, f2]
          refine fac_skip 7 rfl rfl rfl (fun _ _ h _ => h) Ext.refl ?_ ?_
          · intro sv w' hw' hfa
            obtain ⟨f0, f1, f2, f6, -⟩ := hfa
            replace f0 : sv 0 = _ := f0
            try dsimp only at f0
            replace f1 : sv 1 = _ := f1
            try dsimp only at f1
            replace f2 : sv 2 = _ := f2
            try dsimp only at f2
            replace f6 : sv 6 = _ := f6
            try dsimp only at f6
            simp [Region.wanted, yielded, putsL, Act.put, f2, f6]
          refine fac_skip 8 rfl rfl rfl (fun _ _ h _ => h) Ext.refl ?_ ?_
          · intro sv w' hw' hfa
            obtain ⟨f0, f1, f2, f5, f6, f7, -⟩ := hfa
            replace f0 : sv 0 = _ := f0
            try dsimp only at f0
            replace f1 : sv 1 = _ := f1
            try dsimp only at f1
            replace f2 : sv 2 = _ := f2
            try dsimp only at f2
            replace f5 : sv 5 = _ := f5
            try dsimp only at f5
            replace f6 : sv 6 = _ := f6
            try dsimp only at f6
            replace f7 : sv 7 = _ := f7
            try dsimp only at f7
            simp [Region.wanted, yielded, putsL, Act.put, f2, f5, f7]
          refine fac_skip 9 rfl rfl rfl (fun _ _ h _ => h) Ext.refl ?_ ?_
          · intro sv w' hw' hfa
            obtain ⟨f0, f1, f2, f5, f6, f7, f8, -⟩ := hfa
            replace f0 : sv 0 = _ := f0
            try dsimp only at f0
            replace f1 : sv 1 = _ := f1
            try dsimp only at f1
            replace f2 : sv 2 = _ := f2
            try dsimp only at f2
            replace f5 : sv 5 = _ := f5
            try dsimp only at f5
            replace f6 : sv 6 = _ := f6
            try dsimp only at f6
            replace f7 : sv 7 = _ := f7
            try dsimp only at f7
            replace f8 : sv 8 = _ := f8
            try dsimp only at f8
            simp [Region.wanted, yielded, putsL, Act.put, f2, f8]
          refine fac_skip 10 rfl rfl rfl (fun _ _ h _ => h) Ext.refl ?_ ?_
          · intro sv w' hw' hfa
            obtain ⟨f0, f1, f2, f5, f6, f7, f8, f9, -⟩ := hfa
            replace f0 : sv 0 = _ := f0
            try dsimp only at f0
            replace f1 : sv 1 = _ := f1
            try dsimp only at f1
            replace f2 : sv 2 = _ := f2
            try dsimp only at f2
            replace f5 : sv 5 = _ := f5
            try dsimp only at f5
            replace f6 : sv 6 = _ := f6
            try dsimp only at f6
            replace f7 : sv 7 = _ := f7
            try dsimp only at f7
            replace f8 : sv 8 = _ := f8
            try dsimp only at f8
            replace f9 : sv 9 = _ := f9
            try dsimp only at f9
            simp [Region.wanted, yielded, putsL, Act.put, f2, f9]
          refine fac_skip 11 rfl rfl rfl (fun _ _ h _ => h) Ext.refl ?_ ?_
          · intro sv w' hw' hfa
            obtain ⟨f0, f1, f2, f3, f4, f5, f6, f7, f8, f9, f10, -⟩ := hfa
            replace f0 : sv 0 = _ := f0
            try dsimp only at f0
            replace f1 : sv 1 = _ := f1
            try dsimp only at f1
            replace f2 : sv 2 = _ := f2
            try dsimp only at f2
            replace f3 : sv 3 = _ := f3
            try dsimp only at f3
            replace f4 : sv 4 = _ := f4
            try dsimp only at f4
            replace f5 : sv 5 = _ := f5
            try dsimp only at f5
            replace f6 : sv 6 = _ := f6
            try dsimp only at f6
            replace f7 : sv 7 = _ := f7
            try dsimp only at f7
            replace f8 : sv 8 = _ := f8
            try dsimp only at f8
            replace f9 : sv 9 = _ := f9
            try dsimp only at f9
            replace f10 : sv 10 = _ := f10
            try dsimp only at f10
            simp [Region.wanted, yielded, putsL, Act.put, f2, f4, f10]
          refine fac_quiet 12 rfl rfl rfl (fun _ _ h _ => h) rfl rfl ?_
          apply Exists.intro
          refine ⟨fun sv w' hw' hfa => ?_, ?_⟩
          · obtain ⟨_, _, f2, _, _, _, _, _, _, _, _, f11, -⟩ := hfa
            replace f2 : sv 2 = _ := f2
            try dsimp only at f2
            replace f11 : sv 11 = _ := f11
            try dsimp only at f11
            refine ⟨rfl, ?_⟩
            simp only [putsL]
            change quietTo _ _ _ _ (Sem.run _ (execOp (Act.eval (Act.put (Act.put (Act.put (Act.put (Act.put (Act.put (Act.put (Act.put (Act.put (Act.put (Act.put (Act.put _ (some 30) (sv 11)) (some 29) (sv 10)) (some 28) (sv 9)) (some 27) (sv 8)) (some 26) (sv 7)) (some 25) (sv 6)) (some 24) (sv 5)) (some 23) (sv 4)) (some 22) (sv 3)) (some 21) (sv 2)) (some 20) (sv 1)) (some 19) (sv 0))) _) _)
            try simp only [Act.put, List.setIfInBounds_toArray, List.set_cons_succ, List.set_cons_zero]
            simp [go_sem, quietTo, Ext.refl, ↓IntWalk.iteOmega, f2, f11]
            all_goals try simp (disch := omega) only [IntWalk.i64_in]
            all_goals first
              | rfl
          refine fac_nil fun xa wra hera hfra hcra holda hapa => ?_
          obtain ⟨f0, f1, f2, f3, f4, f5, f6, f7, f8, f9, f10, f11, f12, -⟩ := hfra
          replace f0 : xa 0 = _ := f0
          try dsimp only at f0
          replace f1 : xa 1 = _ := f1
          try dsimp only at f1
          replace f2 : xa 2 = _ := f2
          try dsimp only at f2
          replace f3 : xa 3 = _ := f3
          try dsimp only at f3
          replace f4 : xa 4 = _ := f4
          try dsimp only at f4
          replace f5 : xa 5 = _ := f5
          try dsimp only at f5
          replace f6 : xa 6 = _ := f6
          try dsimp only at f6
          replace f7 : xa 7 = _ := f7
          try dsimp only at f7
          replace f8 : xa 8 = _ := f8
          try dsimp only at f8
          replace f9 : xa 9 = _ := f9
          try dsimp only at f9
          replace f10 : xa 10 = _ := f10
          try dsimp only at f10
          replace f11 : xa 11 = _ := f11
          try dsimp only at f11
          replace f12 : xa 12 = _ := f12
          try dsimp only at f12
          change wpList _ _ _ _ (Act.put (Act.put (Act.put (Act.put (Act.put (Act.put (Act.put (Act.put (Act.put (Act.put (Act.put (Act.put (Act.put _ (some 19) (xa 0)) (some 20) (xa 1)) (some 21) (xa 2)) (some 22) (xa 3)) (some 23) (xa 4)) (some 24) (xa 5)) (some 25) (xa 6)) (some 26) (xa 7)) (some 27) (xa 8)) (some 28) (xa 9)) (some 29) (xa 10)) (some 30) (xa 11)) (some 31) (xa 12)) _
          simp only [putsL, Nat.reduceAdd, List.drop_succ_cons, List.drop_zero, List.drop_nil, Act.put, List.setIfInBounds_toArray, List.set_cons_succ, List.set_cons_zero]
          try simp only [f0, f1, f2, f3, f4, f5, f6, f7, f8, f9, f10, f11, f12]
          clear f0 f1 f2 f3 f4 f5 f6 f7 f8 f9 f10 f11 f12
          clear holda hapa
          have hEa := (Ext.refl W1).drew.trans hera
          have hXb := hXa.ext hEa
          obtain ⟨y1, -⟩ := hXb.walk
          have yl := hXb.lt
          by_cases hc0 : choicesF x.cs = 0
          · go_wp2_with (go_at_call 68; (with_reducible refine Calls.mono (hcho.out _ hEa) ?_); rintro e w5 ⟨rfl, hb5⟩)
            go_roundw
            case rel => exact ⟨0 + 1, by omega, by go_num, hz.succ (hF2.out.trans hc0), (hEz hEa).trans hb5⟩
            case measure => simp [intOf]; omega
          · go_wp2_with (go_at_call 68; (with_reducible refine Calls.mono (hcho.out _ hEa) ?_); rintro e w5 ⟨rfl, hb5⟩)
            go_ret
            exact ⟨ret_int ((scan_is hz hlt hF2.out hc0).trans hF.out.symm), (hEz hEa).trans hb5⟩
        | succ k =>
          obtain ⟨y, hy⟩ := getD_some (rfl : X.length = X.length) (show k < X.length by omega)
          have cy := hcx y (by rw [Nat.add_sub_cancel]; exact hy)
          rw [Nat.add_sub_cancel] at cy
          have hkI2 : (k : Int) < X.length := by omega
          have hF2 := hF1.out
          rw [Nat.add_sub_cancel, sizeAt_of hy] at hF2
          refine wp_region_facts [] [([], false, false), ([0], false, false), ([0, 1], false, false), ([0, 1, 2], false, false), ([0, 1, 2, 3], false, false), ([0, 1, 2], false, false), ([0, 1, 2], false, false), ([0, 1, 2, 6], false, false), ([0, 1, 2, 5, 6, 7], false, false), ([0, 1, 2, 5, 6, 7, 8], false, false), ([0, 1, 2, 5, 6, 7, 8, 9], false, false), ([0, 1, 2, 3, 4, 5, 6, 7, 8, 9, 10], false, false), ([0, 1, 2, 3, 4, 5, 6, 7, 8, 9, 10, 11], false, false)] (Ext) Ext (fun _ => True) (by kernel_rfl) (by kernel_rfl) Ext.refl (fun _ _ _ => Ext.trans) (fun _ _ h => h) (fun _ _ h => h.size) (fun _ _ h _ => h) trivial ?_
          dsimp only [List.length_cons, List.length_nil, List.drop_succ_cons, List.drop_zero, List.drop_nil]
          refine fac_quiet 0 rfl rfl rfl (fun _ _ h _ => h) rfl rfl ?_
          apply Exists.intro
          refine ⟨fun sv w' hw' hfa => ?_, ?_⟩
          · refine ⟨rfl, ?_⟩
            simp only [putsL]
            change quietTo _ _ _ _ (Sem.run _ (execOp (Act.eval _) _) _)
            try simp only [Act.put, List.setIfInBounds_toArray, List.set_cons_succ, List.set_cons_zero]
            simp [go_sem, quietTo, Ext.refl]
            all_goals first
              | rfl
          refine fac_quiet 1 rfl rfl rfl (fun _ _ h _ => h) rfl rfl ?_
          apply Exists.intro
          refine ⟨fun sv w' hw' hfa => ?_, ?_⟩
          · obtain ⟨f0, -⟩ := hfa
            replace f0 : sv 0 = _ := f0
            try dsimp only at f0
            refine ⟨rfl, ?_⟩
            simp only [putsL]
            change quietTo _ _ _ _ (Sem.run _ (execOp (Act.eval (Act.put _ (some 19) (sv 0))) _) _)
            try simp only [Act.put, List.setIfInBounds_toArray, List.set_cons_succ, List.set_cons_zero]
            simp [go_sem, quietTo, Ext.refl, ↓IntWalk.iteOmega, f0]
            all_goals try simp (disch := omega) only [IntWalk.i64_in]
            all_goals first
              | rfl
          refine fac_quiet 2 rfl rfl rfl (fun _ _ h _ => h) rfl rfl ?_
          apply Exists.intro
          refine ⟨fun sv w' hw' hfa => ?_, ?_⟩
          · obtain ⟨_, f1, -⟩ := hfa
            replace f1 : sv 1 = _ := f1
            try dsimp only at f1
            refine ⟨rfl, ?_⟩
            simp only [putsL]
            change quietTo _ _ _ _ (Sem.run _ (execOp (Act.eval (Act.put (Act.put _ (some 20) (sv 1)) (some 19) (sv 0))) _) _)
            try simp only [Act.put, List.setIfInBounds_toArray, List.set_cons_succ, List.set_cons_zero]
            simp [go_sem, quietTo, Ext.refl, f1]
            all_goals first
              | rfl
          refine fac_quiet 3 rfl rfl rfl (fun _ _ h _ => h) rfl rfl ?_
          apply Exists.intro
          refine ⟨fun sv w' hw' hfa => ?_, ?_⟩
          · obtain ⟨_, _, f2, -⟩ := hfa
            replace f2 : sv 2 = _ := f2
            try dsimp only at f2
            refine ⟨by simp [Region.wanted, yielded, putsL, Act.put, f2], ?_⟩
            simp only [putsL]
            change quietTo _ _ _ _ (Sem.run _ (execOp (Act.eval (Act.put (Act.put (Act.put _ (some 21) (sv 2)) (some 20) (sv 1)) (some 19) (sv 0))) _) _)
            try simp only [Act.put, List.setIfInBounds_toArray, List.set_cons_succ, List.set_cons_zero]
            simp [go_sem, quietTo, Ext.refl, f2]
            all_goals first
              | rfl
          refine fac_quiet 4 rfl rfl rfl (fun _ _ h _ => h) rfl rfl ?_
          apply Exists.intro
          refine ⟨fun sv w' hw' hfa => ?_, ?_⟩
          · obtain ⟨_, _, f2, f3, -⟩ := hfa
            replace f2 : sv 2 = _ := f2
            try dsimp only at f2
            replace f3 : sv 3 = _ := f3
            try dsimp only at f3
            have hk9 := (Ext.refl W1).drew.trans hw'; obtain ⟨y1, -⟩ := (hXa.ext hk9).walk; have z1 := (hk9.walk.1 _ _ hbl).trans cy
            refine ⟨by simp [Region.wanted, yielded, putsL, Act.put, f2, f3], ?_⟩
            simp only [putsL]
            change quietTo _ _ _ _ (Sem.run _ (execOp (Act.eval (Act.put (Act.put (Act.put (Act.put _ (some 22) (sv 3)) (some 21) (sv 2)) (some 20) (sv 1)) (some 19) (sv 0))) _) _)
            try simp only [Act.put, List.setIfInBounds_toArray, List.set_cons_succ, List.set_cons_zero]
            simp [go_sem, quietTo, Ext.refl, ↓IntWalk.iteOmega, f2, f3, y1]
            all_goals try simp (disch := omega) only [IntWalk.i64_in]
            all_goals first
              | rfl
          refine fac_quiet 5 rfl rfl rfl (fun _ _ h _ => h) rfl rfl ?_
          apply Exists.intro
          refine ⟨fun sv w' hw' hfa => ?_, ?_⟩
          · obtain ⟨_, _, f2, -⟩ := hfa
            replace f2 : sv 2 = _ := f2
            try dsimp only at f2
            refine ⟨by simp [Region.wanted, yielded, putsL, Act.put, f2], ?_⟩
            simp only [putsL]
            change quietTo _ _ _ _ (Sem.run _ (execOp (Act.eval (Act.put (Act.put (Act.put _ (some 21) (sv 2)) (some 20) (sv 1)) (some 19) (sv 0))) _) _)
            try simp only [Act.put, List.setIfInBounds_toArray, List.set_cons_succ, List.set_cons_zero]
            simp [go_sem, quietTo, Ext.refl, f2]
            all_goals first
              | rfl
          refine fac_quiet 6 rfl rfl rfl (fun _ _ h _ => h) rfl rfl ?_
          apply Exists.intro
          refine ⟨fun sv w' hw' hfa => ?_, ?_⟩
          · obtain ⟨_, _, f2, -⟩ := hfa
            replace f2 : sv 2 = _ := f2
            try dsimp only at f2
            refine ⟨by simp [Region.wanted, yielded, putsL, Act.put, f2], ?_⟩
            simp only [putsL]
            change quietTo _ _ _ _ (Sem.run _ (execOp (Act.eval (Act.put (Act.put (Act.put _ (some 21) (sv 2)) (some 20) (sv 1)) (some 19) (sv 0))) _) _)
            try simp only [Act.put, List.setIfInBounds_toArray, List.set_cons_succ, List.set_cons_zero]
            simp [go_sem, quietTo, Ext.refl, f2]
            all_goals first
              | rfl
          refine fac_quiet 7 rfl rfl rfl (fun _ _ h _ => h) rfl rfl ?_
          apply Exists.intro
          refine ⟨fun sv w' hw' hfa => ?_, ?_⟩
          · obtain ⟨_, _, f2, f6, -⟩ := hfa
            replace f2 : sv 2 = _ := f2
            try dsimp only at f2
            replace f6 : sv 6 = _ := f6
            try dsimp only at f6
            refine ⟨by simp [Region.wanted, yielded, putsL, Act.put, f2, f6], ?_⟩
            simp only [putsL]
            change quietTo _ _ _ _ (Sem.run _ (execOp (Act.eval (Act.put (Act.put (Act.put (Act.put _ (some 25) (sv 6)) (some 21) (sv 2)) (some 20) (sv 1)) (some 19) (sv 0))) _) _)
            try simp only [Act.put, List.setIfInBounds_toArray, List.set_cons_succ, List.set_cons_zero]
            simp [go_sem, quietTo, Ext.refl, ↓IntWalk.iteOmega, f2, f6]
            all_goals try simp (disch := omega) only [IntWalk.i64_in]
            all_goals first
              | rfl
          refine fac_quiet 8 rfl rfl rfl (fun _ _ h _ => h) rfl rfl ?_
          apply Exists.intro
          refine ⟨fun sv w' hw' hfa => ?_, ?_⟩
          · obtain ⟨_, _, f2, f5, _, f7, -⟩ := hfa
            replace f2 : sv 2 = _ := f2
            try dsimp only at f2
            replace f5 : sv 5 = _ := f5
            try dsimp only at f5
            replace f7 : sv 7 = _ := f7
            try dsimp only at f7
            have hk9 := (Ext.refl W1).drew.trans hw'; obtain ⟨y1, -⟩ := (hXa.ext hk9).walk; have z1 := (hk9.walk.1 _ _ hbl).trans cy
            refine ⟨by simp [Region.wanted, yielded, putsL, Act.put, f2, f5, f7], ?_⟩
            simp only [putsL]
            change quietTo _ _ _ _ (Sem.run _ (execOp (Act.eval (Act.put (Act.put (Act.put (Act.put (Act.put (Act.put _ (some 26) (sv 7)) (some 25) (sv 6)) (some 24) (sv 5)) (some 21) (sv 2)) (some 20) (sv 1)) (some 19) (sv 0))) _) _)
            try simp only [Act.put, List.setIfInBounds_toArray, List.set_cons_succ, List.set_cons_zero]
            simp [go_sem, quietTo, Ext.refl, ↓IntWalk.iteOmega, f2, f5, f7, hkI2]
            all_goals try simp (disch := omega) only [IntWalk.i64_in]
            all_goals first
              | rfl
          refine fac_quiet 9 rfl rfl rfl (fun _ _ h _ => h) rfl rfl ?_
          apply Exists.intro
          refine ⟨fun sv w' hw' hfa => ?_, ?_⟩
          · obtain ⟨_, _, f2, _, _, _, f8, -⟩ := hfa
            replace f2 : sv 2 = _ := f2
            try dsimp only at f2
            replace f8 : sv 8 = _ := f8
            try dsimp only at f8
            refine ⟨by simp [Region.wanted, yielded, putsL, Act.put, f2, f8], ?_⟩
            simp only [putsL]
            change quietTo _ _ _ _ (Sem.run _ (execOp (Act.eval (Act.put (Act.put (Act.put (Act.put (Act.put (Act.put (Act.put _ (some 27) (sv 8)) (some 26) (sv 7)) (some 25) (sv 6)) (some 24) (sv 5)) (some 21) (sv 2)) (some 20) (sv 1)) (some 19) (sv 0))) _) _)
            try simp only [Act.put, List.setIfInBounds_toArray, List.set_cons_succ, List.set_cons_zero]
            simp [go_sem, quietTo, Ext.refl, f2, f8]
            all_goals first
              | rfl
          refine fac_quiet 10 rfl rfl rfl (fun _ _ h _ => h) rfl rfl ?_
          apply Exists.intro
          refine ⟨fun sv w' hw' hfa => ?_, ?_⟩
          · obtain ⟨_, _, f2, _, _, _, _, f9, -⟩ := hfa
            replace f2 : sv 2 = _ := f2
            try dsimp only at f2
            replace f9 : sv 9 = _ := f9
            try dsimp only at f9
            have hk9 := (Ext.refl W1).drew.trans hw'; obtain ⟨y1, -⟩ := (hXa.ext hk9).walk; have z1 := (hk9.walk.1 _ _ hbl).trans cy
            refine ⟨by simp [Region.wanted, yielded, putsL, Act.put, f2, f9], ?_⟩
            simp only [putsL]
            change quietTo _ _ _ _ (Sem.run _ (execOp (Act.eval (Act.put (Act.put (Act.put (Act.put (Act.put (Act.put (Act.put (Act.put _ (some 28) (sv 9)) (some 27) (sv 8)) (some 26) (sv 7)) (some 25) (sv 6)) (some 24) (sv 5)) (some 21) (sv 2)) (some 20) (sv 1)) (some 19) (sv 0))) _) _)
            try simp only [Act.put, List.setIfInBounds_toArray, List.set_cons_succ, List.set_cons_zero]
            simp [go_sem, quietTo, Ext.refl, ↓IntWalk.iteOmega, f2, f9, z1]
            all_goals try simp (disch := omega) only [IntWalk.i64_in]
            all_goals first
              | rfl
          refine fac_quiet 11 rfl rfl rfl (fun _ _ h _ => h) rfl rfl ?_
          apply Exists.intro
          refine ⟨fun sv w' hw' hfa => ?_, ?_⟩
          · obtain ⟨_, _, f2, _, f4, _, _, _, _, _, f10, -⟩ := hfa
            replace f2 : sv 2 = _ := f2
            try dsimp only at f2
            replace f4 : sv 4 = _ := f4
            try dsimp only at f4
            replace f10 : sv 10 = _ := f10
            try dsimp only at f10
            refine ⟨by simp [Region.wanted, yielded, putsL, Act.put, f2, f4, f10], ?_⟩
            simp only [putsL]
            change quietTo _ _ _ _ (Sem.run _ (execOp (Act.eval (Act.put (Act.put (Act.put (Act.put (Act.put (Act.put (Act.put (Act.put (Act.put (Act.put (Act.put _ (some 29) (sv 10)) (some 28) (sv 9)) (some 27) (sv 8)) (some 26) (sv 7)) (some 25) (sv 6)) (some 24) (sv 5)) (some 23) (sv 4)) (some 22) (sv 3)) (some 21) (sv 2)) (some 20) (sv 1)) (some 19) (sv 0))) _) _)
            try simp only [Act.put, List.setIfInBounds_toArray, List.set_cons_succ, List.set_cons_zero]
            simp [go_sem, quietTo, Ext.refl, ↓IntWalk.iteOmega, f2, f4, f10]
            all_goals try simp (disch := omega) only [IntWalk.i64_in]
            all_goals first
              | rfl
          refine fac_quiet 12 rfl rfl rfl (fun _ _ h _ => h) rfl rfl ?_
          apply Exists.intro
          refine ⟨fun sv w' hw' hfa => ?_, ?_⟩
          · obtain ⟨_, _, f2, _, _, _, _, _, _, _, _, f11, -⟩ := hfa
            replace f2 : sv 2 = _ := f2
            try dsimp only at f2
            replace f11 : sv 11 = _ := f11
            try dsimp only at f11
            refine ⟨rfl, ?_⟩
            simp only [putsL]
            change quietTo _ _ _ _ (Sem.run _ (execOp (Act.eval (Act.put (Act.put (Act.put (Act.put (Act.put (Act.put (Act.put (Act.put (Act.put (Act.put (Act.put (Act.put _ (some 30) (sv 11)) (some 29) (sv 10)) (some 28) (sv 9)) (some 27) (sv 8)) (some 26) (sv 7)) (some 25) (sv 6)) (some 24) (sv 5)) (some 23) (sv 4)) (some 22) (sv 3)) (some 21) (sv 2)) (some 20) (sv 1)) (some 19) (sv 0))) _) _)
            try simp only [Act.put, List.setIfInBounds_toArray, List.set_cons_succ, List.set_cons_zero]
            simp [go_sem, quietTo, Ext.refl, ↓IntWalk.iteOmega, f2, f11]
            all_goals try simp (disch := omega) only [IntWalk.i64_in]
            all_goals first
              | rfl
          refine fac_nil fun xa wra hera hfra hcra holda hapa => ?_
          obtain ⟨f0, f1, f2, f3, f4, f5, f6, f7, f8, f9, f10, f11, f12, -⟩ := hfra
          replace f0 : xa 0 = _ := f0
          try dsimp only at f0
          replace f1 : xa 1 = _ := f1
          try dsimp only at f1
          replace f2 : xa 2 = _ := f2
          try dsimp only at f2
          replace f3 : xa 3 = _ := f3
          try dsimp only at f3
          replace f4 : xa 4 = _ := f4
          try dsimp only at f4
          replace f5 : xa 5 = _ := f5
          try dsimp only at f5
          replace f6 : xa 6 = _ := f6
          try dsimp only at f6
          replace f7 : xa 7 = _ := f7
          try dsimp only at f7
          replace f8 : xa 8 = _ := f8
          try dsimp only at f8
          replace f9 : xa 9 = _ := f9
          try dsimp only at f9
          replace f10 : xa 10 = _ := f10
          try dsimp only at f10
          replace f11 : xa 11 = _ := f11
          try dsimp only at f11
          replace f12 : xa 12 = _ := f12
          try dsimp only at f12
          change wpList _ _ _ _ (Act.put (Act.put (Act.put (Act.put (Act.put (Act.put (Act.put (Act.put (Act.put (Act.put (Act.put (Act.put (Act.put _ (some 19) (xa 0)) (some 20) (xa 1)) (some 21) (xa 2)) (some 22) (xa 3)) (some 23) (xa 4)) (some 24) (xa 5)) (some 25) (xa 6)) (some 26) (xa 7)) (some 27) (xa 8)) (some 28) (xa 9)) (some 29) (xa 10)) (some 30) (xa 11)) (some 31) (xa 12)) _
          simp only [putsL, Nat.reduceAdd, List.drop_succ_cons, List.drop_zero, List.drop_nil, Act.put, List.setIfInBounds_toArray, List.set_cons_succ, List.set_cons_zero]
          try simp only [f0, f1, f2, f3, f4, f5, f6, f7, f8, f9, f10, f11, f12]
          clear f0 f1 f2 f3 f4 f5 f6 f7 f8 f9 f10 f11 f12
          clear holda hapa
          have hEa := (Ext.refl W1).drew.trans hera
          have hXb := hXa.ext hEa
          obtain ⟨y1, -⟩ := hXb.walk
          have yl := hXb.lt
          by_cases hle : x.size ≤ y.size
          · rw [if_pos ⟨by omega, hle⟩] at hF2
            replace hF2 := Lib.hid hF2
            go_wp2
            go_ret
            exact ⟨ret_int ((scan_is hz hlt hF2.out (by decide)).trans hF.out.symm), hEz hEa⟩
          · rw [if_neg (fun h => hle h.2)] at hF2
            replace hF2 := Lib.hid hF2
            by_cases hc0 : choicesF x.cs = 0
            · go_wp2_with (go_at_call 68; (with_reducible refine Calls.mono (hcho.out _ hEa) ?_); rintro e w5 ⟨rfl, hb5⟩)
              go_roundw
              case rel => exact ⟨k + 1 + 1, by omega, by go_num, hz.succ (hF2.out.trans hc0), (hEz hEa).trans hb5⟩
              case measure => simp [intOf]; omega
            · go_wp2_with (go_at_call 68; (with_reducible refine Calls.mono (hcho.out _ hEa) ?_); rintro e w5 ⟨rfl, hb5⟩)
              go_ret
              exact ⟨ret_int ((scan_is hz hlt hF2.out hc0).trans hF.out.symm), (hEz hEa).trans hb5⟩
      · simp only [if_true] at hF1
        replace hF1 := Lib.hid hF1
        replace hout := Lib.hid hout
        go_wp2_with (go_at_call 19; (with_reducible refine Calls.mono (hout.out _) ?_); rintro e w1 ⟨rfl, rfl⟩)
        go_ret
        exact ⟨ret_int ((scan_is hz hlt hF1.out (by decide)).trans hF.out.symm), hE.trans hEa⟩
    · obtain rfl : k = X.length := by omega
      go_wp2
      go_ret
      exact ⟨ret_int ((scan_zero hz).symm.trans hF.out.symm), hE⟩
end Go.Proofs.YtapjekpjekdlkaaGreatDoor
