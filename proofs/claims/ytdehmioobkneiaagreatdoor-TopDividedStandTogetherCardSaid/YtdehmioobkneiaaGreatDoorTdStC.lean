/- What is wrong with a stage, by both texts: the walks. Conditions: sizes. -/
import Derived.Test.YtdehmioobkneiaaGreatDoorTdStB
import Derived.Test.YtdehmioobkneiaaGreatDoorTdJ3
set_option linter.unusedSimpArgs false
set_option linter.unusedVariables false
namespace Go.Proofs.YtdehmioobkneiaaGreatDoor
open Go Go.RowKit
theorem Elems.int {w : World} {b off : Nat} {xs : List Int} (h : Elems 1 intC w b off xs) {i : Nat} {x : Int} (hx : xs[i]? = some x) : w.cell? ⟨b, off + i, none⟩ = some (.int .i64 x) := by
  have := h i x hx 0 (.int .i64 x) rfl
  simpa using this
def SmallL (xs : List Int) : Prop := ∀ x ∈ xs, -1099511627776 ≤ x ∧ x ≤ 1099511627776
set_option maxRecDepth 100000 in
set_option maxHeartbeats 1600000 in
theorem checkStage_any (wp : Option Addr) (wc : Nat) (hp : Option Addr) (hc : Nat) (wide high : List Int) (w : World) (hw : Slc 1 intC w wp wide.length wc wide) (hh : Slc 1 intC w hp high.length hc high) (sw : SmallL wide) (sh : SmallL high) :
    Calls Tryz.prog 88 #[.agg #[.slice wp wide.length wc, .slice hp high.length hc]] w fun e w' => e = .returned (.int .i64 (stageF wide high)) ∧ Ext w w' := by
  have hF : stageF wide high = if wide.length = 0 then 8 else if 10 < wide.length then 2 else if high.length ≠ wide.length then 3 else scanF wide.length (chkRow wide high) := rfl
  replace hF := Lib.hid hF
  have hX : Blk (w.alloc (.cells #[.slice wp wide.length wc, .slice hp high.length hc] 48)) w.heap.size 48 #[.slice wp wide.length wc, .slice hp high.length hc] := Blk.new' rfl
  have hE0 : Ext w (w.alloc (.cells #[.slice wp wide.length wc, .slice hp high.length hc] 48)) := (Ext.refl _).alloc _
  by_cases h0 : wide.length = 0
  · have h0I : ((wide.length : Int) == 0) = true := by rw [h0]; rfl
    have hr : stageF wide high = 8 := by rw [hF.out, if_pos h0]
    rw [hr]
    clear hr hF h0 hw hh sw sh
    go_enter Tryz.func88, Tryz.ntmps88
    go_wp2
    go_ret
    exact ⟨rfl, hE0⟩
  have h0I : ((wide.length : Int) == 0) = false := by simp; intro e; subst e; simp at h0
  by_cases h10 : 10 < wide.length
  · have hr : stageF wide high = 2 := by rw [hF.out, if_neg h0, if_pos h10]
    have h10I : 10 < (wide.length : Int) := by omega
    rw [hr]
    clear hr hF h0 hw hh sw sh
    go_enter Tryz.func88, Tryz.ntmps88
    go_wp2
    go_ret
    exact ⟨rfl, hE0⟩
  have h10I : ¬ 10 < (wide.length : Int) := by omega
  by_cases hl : high.length = wide.length
  · have hr : stageF wide high = scanF wide.length (chkRow wide high) := by rw [hF.out, if_neg h0, if_neg h10, if_neg (by simpa using hl)]
    rw [hr]
    have hw2 := (slcC hw).2
    have hh2 := (slcC hh).2
    rw [hl] at hX hE0 ⊢
    clear hr hF hw hh
    generalize hm : wide.length = m at *
    replace hm := Lib.hid hm; replace hl := Lib.hid hl; replace hw2 := Lib.hid hw2; replace hh2 := Lib.hid hh2; replace h0 := Lib.hid h0
    go_enter Tryz.func88, Tryz.ntmps88
    go_wp2
    generalize w.alloc (.cells #[.slice wp m wc, .slice hp m hc] 48) = W at *
    go_loopw [25] (fun i w' => ∃ k : Nat, k ≤ m ∧ i = .int .i64 k ∧ Zeros (chkRow wide high) k ∧ Ext W w') (fun i _ => m - (intOf i).toNat)
    case atStart => exact ⟨0, Nat.zero_le _, rfl, (fun j hj => by omega), Ext.refl _⟩
    case round =>
      obtain ⟨k, hk, rfl, hz, he⟩ := hrel
      obtain ⟨b0, -⟩ := (hX.ext he).walk
      have lX := (hX.ext he).lt
      by_cases hlt : k < m
      · obtain ⟨x, hx⟩ := getD_some hm.out hlt
        obtain ⟨y, hy⟩ := getD_some hl.out hlt
        rcases hw2.out with ⟨-, e⟩ | ⟨wb, wo, rfl, hwb, hwE⟩
        · rw [e] at hx; cases hx
        rcases hh2.out with ⟨-, e⟩ | ⟨hb, ho, rfl, hhb, hhE⟩
        · rw [e] at hy; cases hy
        have hEw := hE0.trans he
        have c1 := (hwE.ext hEw hwb).int hx
        have c2 := (hhE.ext hEw hhb).int hy
        have l1 := Nat.lt_of_lt_of_le hwb hEw.size
        have l2 := Nat.lt_of_lt_of_le hhb hEw.size
        obtain ⟨s1, s2⟩ := sw x (List.mem_of_getElem? hx)
        obtain ⟨s3, s4⟩ := sh y (List.mem_of_getElem? hy)
        have hkI : (k : Int) < m := by omega
        have hv : chkRow wide high k = if inB x 1 30 && inB y 0 5000 then (if 0 < k && decide (y < atL 0 high (k - 1)) then 7 else 0) else 1 := by
          unfold chkRow; rw [atL_of hx, atL_of hy]
        replace hv := Lib.hid hv; replace hx := Lib.hid hx; replace hy := Lib.hid hy
        cases hk1 : inB x 1 30
        · have hk1' : outB x 1 30 = true := by rw [outB_inB, hk1]; rfl
          go_wp2_with (go_at_call 42; (with_reducible refine Calls.mono (outside_any _ _ _ _) ?_); rintro e w4 ⟨rfl, rfl⟩)
          go_ret
          exact ⟨ret_int (by exact scan_is hz hlt (by rw [hv.out, hk1]; rfl) (by decide)), hEw⟩
        have hk1' : outB x 1 30 = false := by rw [outB_inB, hk1]; rfl
        cases hk2 : inB y 0 5000
        · have hk2' : outB y 0 5000 = true := by rw [outB_inB, hk2]; rfl
          go_wp2_with (go_at_call 42; (with_reducible refine Calls.mono (outside_any _ _ _ _) ?_); rintro e w4 ⟨rfl, rfl⟩)
          go_ret
          exact ⟨ret_int (by exact scan_is hz hlt (by rw [hv.out, hk1, hk2]; rfl) (by decide)), hEw⟩
        have hk2' : outB y 0 5000 = false := by rw [outB_inB, hk2]; rfl
        go_upto_region 12 with (go_at_call 42; (with_reducible refine Calls.mono (outside_any _ _ _ _) ?_); rintro e w4 ⟨rfl, rfl⟩)
        have hXr := hX.ext he
        rcases Nat.eq_zero_or_pos k with hk0 | hk0
        · subst hk0
          have hz0 : ((0 : Nat) : Int) = 0 := rfl
          refine wp_region_facts [] [([], false, false), ([0], false, false), ([0, 1], false, false), ([0, 1, 2], false, false), ([0, 1, 2, 3], false, false), ([0, 1, 2], false, false), ([0, 1, 2, 3, 4, 5], false, false), ([0, 1, 2, 3, 4, 5, 6], false, false), ([0, 1, 2], false, false), ([0, 1, 2, 8], false, false), ([0, 1, 2], false, false), ([0, 1, 2, 10], false, false), ([0, 1, 2, 8, 9, 10, 11], false, false), ([0, 1, 2, 8, 9, 10, 11, 12], false, false), ([0, 1, 2, 3, 4, 5, 6, 7, 8, 9, 10, 11, 12, 13], false, false), ([0, 1, 2, 3, 4, 5, 6, 7, 8, 9, 10, 11, 12, 13, 14], false, false)] (Ext) Ext (fun _ => True) (by kernel_rfl) (by kernel_rfl) Ext.refl (fun _ _ _ => Ext.trans) (fun _ _ h => h) (fun _ _ h => h.size) (fun _ _ h _ => h) trivial ?_
          dsimp only [List.length_cons, List.length_nil, List.drop_succ_cons, List.drop_zero, List.drop_nil]
          refine fac_quiet 0 rfl rfl rfl (fun _ _ h _ => h) rfl rfl ?_
          apply Exists.intro
          refine ⟨fun sv w' hw' hfa => ?_, ?_⟩
          · refine ⟨rfl, ?_⟩
            simp only [putsL]
            change quietTo _ _ _ _ (Sem.run _ (execOp (Act.eval _) _) _)
            try simp only [Act.put, sIA, sCS, sCZ]
            simp [go_sem, quietTo, Ext.refl]
            all_goals first
              | rfl
          refine fac_quiet 1 rfl rfl rfl (fun _ _ h _ => h) rfl rfl ?_
          apply Exists.intro
          refine ⟨fun sv w' hw' hfa => ?_, ?_⟩
          · obtain ⟨f0, -⟩ := hfa
            replace f0 : sv 0 = _ := f0; (try dsimp only at f0)
            refine ⟨rfl, ?_⟩
            simp only [putsL]
            change quietTo _ _ _ _ (Sem.run _ (execOp (Act.eval (Act.put _ (some 42) (sv 0))) _) _)
            try simp only [Act.put, sIA, sCS, sCZ]
            simp [go_sem, quietTo, Ext.refl, ↓IntWalk.iteOmega, f0, hz0]
            all_goals try simp (disch := omega) only [IntWalk.i64_in]
            all_goals first
              | rfl
          refine fac_quiet 2 rfl rfl rfl (fun _ _ h _ => h) rfl rfl ?_
          apply Exists.intro
          refine ⟨fun sv w' hw' hfa => ?_, ?_⟩
          · obtain ⟨_, f1, -⟩ := hfa
            replace f1 : sv 1 = _ := f1; (try dsimp only at f1)
            refine ⟨rfl, ?_⟩
            simp only [putsL]
            change quietTo _ _ _ _ (Sem.run _ (execOp (Act.eval (Act.put (Act.put _ (some 43) (sv 1)) (some 42) (sv 0))) _) _)
            try simp only [Act.put, sIA, sCS, sCZ]
            simp [go_sem, quietTo, Ext.refl, f1]
            all_goals first
              | rfl
          refine fac_skip 3 rfl rfl rfl (fun _ _ h _ => h) Ext.refl ?_ ?_
          · intro sv w' hw' hfa
            obtain ⟨f0, f1, f2, -⟩ := hfa
            replace f0 : sv 0 = _ := f0; (try dsimp only at f0); replace f1 : sv 1 = _ := f1; (try dsimp only at f1); replace f2 : sv 2 = _ := f2; (try dsimp only at f2)
            simp [Region.wanted, yielded, putsL, Act.put, f2]
          refine fac_skip 4 rfl rfl rfl (fun _ _ h _ => h) Ext.refl ?_ ?_
          · intro sv w' hw' hfa
            obtain ⟨f0, f1, f2, f3, -⟩ := hfa
            replace f0 : sv 0 = _ := f0; (try dsimp only at f0); replace f1 : sv 1 = _ := f1; (try dsimp only at f1); replace f2 : sv 2 = _ := f2; (try dsimp only at f2); replace f3 : sv 3 = _ := f3; (try dsimp only at f3)
            simp [Region.wanted, yielded, putsL, Act.put, f2, f3]
          refine fac_skip 5 rfl rfl rfl (fun _ _ h _ => h) Ext.refl ?_ ?_
          · intro sv w' hw' hfa
            obtain ⟨f0, f1, f2, -⟩ := hfa
            replace f0 : sv 0 = _ := f0; (try dsimp only at f0); replace f1 : sv 1 = _ := f1; (try dsimp only at f1); replace f2 : sv 2 = _ := f2; (try dsimp only at f2)
            simp [Region.wanted, yielded, putsL, Act.put, f2]
          refine fac_skip 6 rfl rfl rfl (fun _ _ h _ => h) Ext.refl ?_ ?_
          · intro sv w' hw' hfa
            obtain ⟨f0, f1, f2, f3, f4, f5, -⟩ := hfa
            replace f0 : sv 0 = _ := f0; (try dsimp only at f0); replace f1 : sv 1 = _ := f1; (try dsimp only at f1); replace f2 : sv 2 = _ := f2; (try dsimp only at f2); replace f3 : sv 3 = _ := f3; (try dsimp only at f3); replace f4 : sv 4 = _ := f4; (try dsimp only at f4); replace f5 : sv 5 = _ := f5; (try dsimp only at f5)
            simp [Region.wanted, yielded, putsL, Act.put, f2, f4, f5]
          refine fac_skip 7 rfl rfl rfl (fun _ _ h _ => h) Ext.refl ?_ ?_
          · intro sv w' hw' hfa
            obtain ⟨f0, f1, f2, f3, f4, f5, f6, -⟩ := hfa
            replace f0 : sv 0 = _ := f0; (try dsimp only at f0); replace f1 : sv 1 = _ := f1; (try dsimp only at f1); replace f2 : sv 2 = _ := f2; (try dsimp only at f2); replace f3 : sv 3 = _ := f3; (try dsimp only at f3); replace f4 : sv 4 = _ := f4; (try dsimp only at f4); replace f5 : sv 5 = _ := f5; (try dsimp only at f5); replace f6 : sv 6 = _ := f6; (try dsimp only at f6)
            simp [Region.wanted, yielded, putsL, Act.put, f2, f6]
          refine fac_skip 8 rfl rfl rfl (fun _ _ h _ => h) Ext.refl ?_ ?_
          · intro sv w' hw' hfa
            obtain ⟨f0, f1, f2, -⟩ := hfa
            replace f0 : sv 0 = _ := f0; (try dsimp only at f0); replace f1 : sv 1 = _ := f1; (try dsimp only at f1); replace f2 : sv 2 = _ := f2; (try dsimp only at f2)
            simp [Region.wanted, yielded, putsL, Act.put, f2]
          refine fac_skip 9 rfl rfl rfl (fun _ _ h _ => h) Ext.refl ?_ ?_
          · intro sv w' hw' hfa
            obtain ⟨f0, f1, f2, f8, -⟩ := hfa
            replace f0 : sv 0 = _ := f0; (try dsimp only at f0); replace f1 : sv 1 = _ := f1; (try dsimp only at f1); replace f2 : sv 2 = _ := f2; (try dsimp only at f2); replace f8 : sv 8 = _ := f8; (try dsimp only at f8)
            simp [Region.wanted, yielded, putsL, Act.put, f2, f8]
          refine fac_skip 10 rfl rfl rfl (fun _ _ h _ => h) Ext.refl ?_ ?_
          · intro sv w' hw' hfa
            obtain ⟨f0, f1, f2, -⟩ := hfa
            replace f0 : sv 0 = _ := f0; (try dsimp only at f0); replace f1 : sv 1 = _ := f1; (try dsimp only at f1); replace f2 : sv 2 = _ := f2; (try dsimp only at f2)
            simp [Region.wanted, yielded, putsL, Act.put, f2]
          refine fac_skip 11 rfl rfl rfl (fun _ _ h _ => h) Ext.refl ?_ ?_
          · intro sv w' hw' hfa
            obtain ⟨f0, f1, f2, f10, -⟩ := hfa
            replace f0 : sv 0 = _ := f0; (try dsimp only at f0); replace f1 : sv 1 = _ := f1; (try dsimp only at f1); replace f2 : sv 2 = _ := f2; (try dsimp only at f2); replace f10 : sv 10 = _ := f10; (try dsimp only at f10)
            simp [Region.wanted, yielded, putsL, Act.put, f2, f10]
          refine fac_skip 12 rfl rfl rfl (fun _ _ h _ => h) Ext.refl ?_ ?_
          · intro sv w' hw' hfa
            obtain ⟨f0, f1, f2, f8, f9, f10, f11, -⟩ := hfa
            replace f0 : sv 0 = _ := f0; (try dsimp only at f0); replace f1 : sv 1 = _ := f1; (try dsimp only at f1); replace f2 : sv 2 = _ := f2; (try dsimp only at f2); replace f8 : sv 8 = _ := f8; (try dsimp only at f8); replace f9 : sv 9 = _ := f9; (try dsimp only at f9); replace f10 : sv 10 = _ := f10; (try dsimp only at f10); replace f11 : sv 11 = _ := f11; (try dsimp only at f11)
            simp [Region.wanted, yielded, putsL, Act.put, f2, f9, f11]
          refine fac_skip 13 rfl rfl rfl (fun _ _ h _ => h) Ext.refl ?_ ?_
          · intro sv w' hw' hfa
            obtain ⟨f0, f1, f2, f8, f9, f10, f11, f12, -⟩ := hfa
            replace f0 : sv 0 = _ := f0; (try dsimp only at f0); replace f1 : sv 1 = _ := f1; (try dsimp only at f1); replace f2 : sv 2 = _ := f2; (try dsimp only at f2); replace f8 : sv 8 = _ := f8; (try dsimp only at f8); replace f9 : sv 9 = _ := f9; (try dsimp only at f9); replace f10 : sv 10 = _ := f10; (try dsimp only at f10); replace f11 : sv 11 = _ := f11; (try dsimp only at f11)
            replace f12 : sv 12 = _ := f12; (try dsimp only at f12)
            simp [Region.wanted, yielded, putsL, Act.put, f2, f12]
          refine fac_skip 14 rfl rfl rfl (fun _ _ h _ => h) Ext.refl ?_ ?_
          · intro sv w' hw' hfa
            obtain ⟨f0, f1, f2, f3, f4, f5, f6, f7, f8, f9, f10, f11, f12, f13, -⟩ := hfa
            replace f0 : sv 0 = _ := f0; (try dsimp only at f0); replace f1 : sv 1 = _ := f1; (try dsimp only at f1); replace f2 : sv 2 = _ := f2; (try dsimp only at f2); replace f3 : sv 3 = _ := f3; (try dsimp only at f3); replace f4 : sv 4 = _ := f4; (try dsimp only at f4); replace f5 : sv 5 = _ := f5; (try dsimp only at f5); replace f6 : sv 6 = _ := f6; (try dsimp only at f6)
            replace f7 : sv 7 = _ := f7; (try dsimp only at f7); replace f8 : sv 8 = _ := f8; (try dsimp only at f8); replace f9 : sv 9 = _ := f9; (try dsimp only at f9); replace f10 : sv 10 = _ := f10; (try dsimp only at f10); replace f11 : sv 11 = _ := f11; (try dsimp only at f11); replace f12 : sv 12 = _ := f12; (try dsimp only at f12); replace f13 : sv 13 = _ := f13
            (try dsimp only at f13)
            simp [Region.wanted, yielded, putsL, Act.put, f2, f7, f13]
          refine fac_quiet 15 rfl rfl rfl (fun _ _ h _ => h) rfl rfl ?_
          apply Exists.intro
          refine ⟨fun sv w' hw' hfa => ?_, ?_⟩
          · obtain ⟨_, _, f2, _, _, _, _, _, _, _, _, _, _, _, f14, -⟩ := hfa
            replace f2 : sv 2 = _ := f2; (try dsimp only at f2); replace f14 : sv 14 = _ := f14; (try dsimp only at f14)
            refine ⟨rfl, ?_⟩
            simp only [putsL]
            change quietTo _ _ _ _ (Sem.run _ (execOp (Act.eval (Act.put (Act.put (Act.put (Act.put (Act.put (Act.put (Act.put (Act.put (Act.put (Act.put (Act.put (Act.put (Act.put (Act.put (Act.put _ (some 56) (sv 14)) (some 55) (sv 13)) (some 54) (sv 12)) (some 53) (sv 11)) (some 52) (sv 10)) (some 51) (sv 9)) (some 50) (sv 8)) (some 49) (sv 7)) (some 48) (sv 6)) (some 47) (sv 5)) (some 46) (sv 4)) (some 45) (sv 3)) (some 44) (sv 2)) (some 43) (sv 1)) (some 42) (sv 0))) _) _)
            try simp only [Act.put, sIA, sCS, sCZ]
            simp [go_sem, quietTo, Ext.refl, ↓IntWalk.iteOmega, f2, f14, hz0]
            all_goals try simp (disch := omega) only [IntWalk.i64_in]
            all_goals first
              | rfl
          refine fac_nil fun xa wra hera hfra hcra holda hapa => ?_
          obtain ⟨f0, f1, f2, f3, f4, f5, f6, f7, f8, f9, f10, f11, f12, f13, f14, f15, -⟩ := hfra
          replace f0 : xa 0 = _ := f0
          (try dsimp only at f0)
          replace f1 : xa 1 = _ := f1
          (try dsimp only at f1)
          replace f2 : xa 2 = _ := f2
          (try dsimp only at f2)
          replace f3 : xa 3 = _ := f3
          (try dsimp only at f3)
          replace f4 : xa 4 = _ := f4
          (try dsimp only at f4)
          replace f5 : xa 5 = _ := f5
          (try dsimp only at f5)
          replace f6 : xa 6 = _ := f6
          (try dsimp only at f6)
          replace f7 : xa 7 = _ := f7
          (try dsimp only at f7)
          replace f8 : xa 8 = _ := f8
          (try dsimp only at f8)
          replace f9 : xa 9 = _ := f9
          (try dsimp only at f9)
          replace f10 : xa 10 = _ := f10
          (try dsimp only at f10)
          replace f11 : xa 11 = _ := f11
          (try dsimp only at f11)
          replace f12 : xa 12 = _ := f12
          (try dsimp only at f12)
          replace f13 : xa 13 = _ := f13
          (try dsimp only at f13)
          replace f14 : xa 14 = _ := f14
          (try dsimp only at f14)
          replace f15 : xa 15 = _ := f15
          (try dsimp only at f15)
          change wpList _ _ _ _ (Act.put (Act.put (Act.put (Act.put (Act.put (Act.put (Act.put (Act.put (Act.put (Act.put (Act.put (Act.put (Act.put (Act.put (Act.put (Act.put _ (some 42) (xa 0)) (some 43) (xa 1)) (some 44) (xa 2)) (some 45) (xa 3)) (some 46) (xa 4)) (some 47) (xa 5)) (some 48) (xa 6)) (some 49) (xa 7)) (some 50) (xa 8)) (some 51) (xa 9)) (some 52) (xa 10)) (some 53) (xa 11)) (some 54) (xa 12)) (some 55) (xa 13)) (some 56) (xa 14)) (some 57) (xa 15)) _
          simp only [putsL, Nat.reduceAdd, List.drop_succ_cons, List.drop_zero, List.drop_nil, Act.put, sIA, sCS, sCZ]
          try simp only [f0, f1, f2, f3, f4, f5, f6, f7, f8, f9, f10, f11, f12, f13, f14, f15]
          clear f0 f1 f2 f3 f4 f5 f6 f7 f8 f9 f10 f11 f12 f13 f14 f15; clear holda hapa
          go_wp2
          go_roundw
          case rel => exact ⟨1, by omega, rfl, hz.succ (by rw [hv.out, hk1, hk2]; rfl), he.trans ((Ext.refl _).drew.trans hera)⟩
          case measure => simp [intOf]; omega
        · obtain ⟨j, rfl⟩ : ∃ j, k = j + 1 := ⟨k - 1, by omega⟩
          obtain ⟨q, hq⟩ := getD_some hl.out (show j < m by omega)
          have c3 := (hhE.ext hEw hhb).int hq
          have hat : atL 0 high (j + 1 - 1) = q := by rw [Nat.add_sub_cancel]; exact atL_of hq
          rw [hat] at hv
          have hwj : IntKind.i64.wrap (j : Int) = j := IntWalk.i64_in _ (by omega)
          have hjl : (j : Int) < m := by omega
          have hj0 : 0 < (j : Int) + 1 := by omega
          have hkI2 : (j : Int) + 1 < m := by omega
          have hj9 : ((j : Int) + 1).toNat = j + 1 := by omega
          clear hat hq
          by_cases hlb : y < q
          all_goals
            refine wp_region_facts [] [([], false, false), ([0], false, false), ([0, 1], false, false), ([0, 1, 2], false, false), ([0, 1, 2, 3], false, false), ([0, 1, 2], false, false), ([0, 1, 2, 3, 4, 5], false, false), ([0, 1, 2, 3, 4, 5, 6], false, false), ([0, 1, 2], false, false), ([0, 1, 2, 8], false, false), ([0, 1, 2], false, false), ([0, 1, 2, 10], false, false), ([0, 1, 2, 8, 9, 10, 11], false, false), ([0, 1, 2, 8, 9, 10, 11, 12], false, false), ([0, 1, 2, 3, 4, 5, 6, 7, 8, 9, 10, 11, 12, 13], false, false), ([0, 1, 2, 3, 4, 5, 6, 7, 8, 9, 10, 11, 12, 13, 14], false, false)] (Ext) Ext (fun _ => True) (by kernel_rfl) (by kernel_rfl) Ext.refl (fun _ _ _ => Ext.trans) (fun _ _ h => h) (fun _ _ h => h.size) (fun _ _ h _ => h) trivial ?_
            dsimp only [List.length_cons, List.length_nil, List.drop_succ_cons, List.drop_zero, List.drop_nil]
            refine fac_quiet 0 rfl rfl rfl (fun _ _ h _ => h) rfl rfl ?_
            apply Exists.intro
            refine ⟨fun sv w' hw' hfa => ?_, ?_⟩
            · refine ⟨rfl, ?_⟩
              simp only [putsL]
              change quietTo _ _ _ _ (Sem.run _ (execOp (Act.eval _) _) _)
              try simp only [Act.put, sIA, sCS, sCZ]
              simp [go_sem, quietTo, Ext.refl]
              all_goals first
                | rfl
            refine fac_quiet 1 rfl rfl rfl (fun _ _ h _ => h) rfl rfl ?_
            apply Exists.intro
            refine ⟨fun sv w' hw' hfa => ?_, ?_⟩
            · obtain ⟨f0, -⟩ := hfa
              replace f0 : sv 0 = _ := f0; (try dsimp only at f0)
              have hk9 := (Ext.refl wr).drew.trans hw'; obtain ⟨hc9, hff, hz9⟩ := hk9.walk; obtain ⟨y0, -⟩ := (hXr.ext hk9).walk; have y2 := (hc9 _ _ l2).trans c2; have y3 := (hc9 _ _ l2).trans c3
              refine ⟨rfl, ?_⟩
              simp only [putsL]
              change quietTo _ _ _ _ (Sem.run _ (execOp (Act.eval (Act.put _ (some 42) (sv 0))) _) _)
              try simp only [Act.put, sIA, sCS, sCZ]
              simp [go_sem, quietTo, Ext.refl, ↓IntWalk.iteOmega, f0, hj0]
              all_goals try simp (disch := omega) only [IntWalk.i64_in]
              all_goals first
                | rfl
            refine fac_quiet 2 rfl rfl rfl (fun _ _ h _ => h) rfl rfl ?_
            apply Exists.intro
            refine ⟨fun sv w' hw' hfa => ?_, ?_⟩
            · obtain ⟨_, f1, -⟩ := hfa
              replace f1 : sv 1 = _ := f1; (try dsimp only at f1)
              refine ⟨rfl, ?_⟩
              simp only [putsL]
              change quietTo _ _ _ _ (Sem.run _ (execOp (Act.eval (Act.put (Act.put _ (some 43) (sv 1)) (some 42) (sv 0))) _) _)
              try simp only [Act.put, sIA, sCS, sCZ]
              simp [go_sem, quietTo, Ext.refl, f1]
              all_goals first
                | rfl
            refine fac_quiet 3 rfl rfl rfl (fun _ _ h _ => h) rfl rfl ?_
            apply Exists.intro
            refine ⟨fun sv w' hw' hfa => ?_, ?_⟩
            · obtain ⟨_, _, f2, -⟩ := hfa
              replace f2 : sv 2 = _ := f2; (try dsimp only at f2)
              refine ⟨by simp [Region.wanted, yielded, putsL, Act.put, f2], ?_⟩
              simp only [putsL]
              change quietTo _ _ _ _ (Sem.run _ (execOp (Act.eval (Act.put (Act.put (Act.put _ (some 44) (sv 2)) (some 43) (sv 1)) (some 42) (sv 0))) _) _)
              try simp only [Act.put, sIA, sCS, sCZ]
              simp [go_sem, quietTo, Ext.refl, f2]
              all_goals first
                | rfl
            refine fac_quiet 4 rfl rfl rfl (fun _ _ h _ => h) rfl rfl ?_
            apply Exists.intro
            refine ⟨fun sv w' hw' hfa => ?_, ?_⟩
            · obtain ⟨_, _, f2, f3, -⟩ := hfa
              replace f2 : sv 2 = _ := f2; (try dsimp only at f2); replace f3 : sv 3 = _ := f3; (try dsimp only at f3)
              have hk9 := (Ext.refl wr).drew.trans hw'; obtain ⟨hc9, hff, hz9⟩ := hk9.walk; obtain ⟨y0, -⟩ := (hXr.ext hk9).walk; have y2 := (hc9 _ _ l2).trans c2; have y3 := (hc9 _ _ l2).trans c3
              refine ⟨by simp [Region.wanted, yielded, putsL, Act.put, f2, f3], ?_⟩
              simp only [putsL]
              change quietTo _ _ _ _ (Sem.run _ (execOp (Act.eval (Act.put (Act.put (Act.put (Act.put _ (some 45) (sv 3)) (some 44) (sv 2)) (some 43) (sv 1)) (some 42) (sv 0))) _) _)
              try simp only [Act.put, sIA, sCS, sCZ]
              simp [go_sem, quietTo, Ext.refl, ↓IntWalk.iteOmega, f2, f3, y0]
              all_goals try simp (disch := omega) only [IntWalk.i64_in]
              all_goals first
                | rfl
            refine fac_quiet 5 rfl rfl rfl (fun _ _ h _ => h) rfl rfl ?_
            apply Exists.intro
            refine ⟨fun sv w' hw' hfa => ?_, ?_⟩
            · obtain ⟨_, _, f2, -⟩ := hfa
              replace f2 : sv 2 = _ := f2; (try dsimp only at f2)
              refine ⟨by simp [Region.wanted, yielded, putsL, Act.put, f2], ?_⟩
              simp only [putsL]
              change quietTo _ _ _ _ (Sem.run _ (execOp (Act.eval (Act.put (Act.put (Act.put _ (some 44) (sv 2)) (some 43) (sv 1)) (some 42) (sv 0))) _) _)
              try simp only [Act.put, sIA, sCS, sCZ]
              simp [go_sem, quietTo, Ext.refl, f2]
              all_goals first
                | rfl
            refine fac_quiet 6 rfl rfl rfl (fun _ _ h _ => h) rfl rfl ?_
            apply Exists.intro
            refine ⟨fun sv w' hw' hfa => ?_, ?_⟩
            · obtain ⟨_, _, f2, _, f4, f5, -⟩ := hfa
              replace f2 : sv 2 = _ := f2; (try dsimp only at f2); replace f4 : sv 4 = _ := f4; (try dsimp only at f4); replace f5 : sv 5 = _ := f5; (try dsimp only at f5)
              have hk9 := (Ext.refl wr).drew.trans hw'; obtain ⟨hc9, hff, hz9⟩ := hk9.walk; obtain ⟨y0, -⟩ := (hXr.ext hk9).walk; have y2 := (hc9 _ _ l2).trans c2; have y3 := (hc9 _ _ l2).trans c3
              refine ⟨by simp [Region.wanted, yielded, putsL, Act.put, f2, f4, f5], ?_⟩
              simp only [putsL]
              change quietTo _ _ _ _ (Sem.run _ (execOp (Act.eval (Act.put (Act.put (Act.put (Act.put (Act.put (Act.put _ (some 47) (sv 5)) (some 46) (sv 4)) (some 45) (sv 3)) (some 44) (sv 2)) (some 43) (sv 1)) (some 42) (sv 0))) _) _)
              try simp only [Act.put, sIA, sCS, sCZ]
              simp [go_sem, quietTo, Ext.refl, ↓IntWalk.iteOmega, f2, f4, f5, hkI2, hj9]
              all_goals try simp (disch := omega) only [IntWalk.i64_in]
              all_goals first
                | rfl
            refine fac_quiet 7 rfl rfl rfl (fun _ _ h _ => h) rfl rfl ?_
            apply Exists.intro
            refine ⟨fun sv w' hw' hfa => ?_, ?_⟩
            · obtain ⟨_, _, f2, _, _, _, f6, -⟩ := hfa
              replace f2 : sv 2 = _ := f2; (try dsimp only at f2); replace f6 : sv 6 = _ := f6; (try dsimp only at f6)
              have hk9 := (Ext.refl wr).drew.trans hw'; obtain ⟨hc9, hff, hz9⟩ := hk9.walk; obtain ⟨y0, -⟩ := (hXr.ext hk9).walk; have y2 := (hc9 _ _ l2).trans c2; have y3 := (hc9 _ _ l2).trans c3
              refine ⟨by simp [Region.wanted, yielded, putsL, Act.put, f2, f6], ?_⟩
              simp only [putsL]
              change quietTo _ _ _ _ (Sem.run _ (execOp (Act.eval (Act.put (Act.put (Act.put (Act.put (Act.put (Act.put (Act.put _ (some 48) (sv 6)) (some 47) (sv 5)) (some 46) (sv 4)) (some 45) (sv 3)) (some 44) (sv 2)) (some 43) (sv 1)) (some 42) (sv 0))) _) _)
              try simp only [Act.put, sIA, sCS, sCZ]
              simp [go_sem, quietTo, Ext.refl, ↓IntWalk.iteOmega, f2, f6, y2]
              all_goals try simp (disch := omega) only [IntWalk.i64_in]
              all_goals first
                | rfl
            refine fac_quiet 8 rfl rfl rfl (fun _ _ h _ => h) rfl rfl ?_
            apply Exists.intro
            refine ⟨fun sv w' hw' hfa => ?_, ?_⟩
            · obtain ⟨_, _, f2, -⟩ := hfa
              replace f2 : sv 2 = _ := f2; (try dsimp only at f2)
              refine ⟨by simp [Region.wanted, yielded, putsL, Act.put, f2], ?_⟩
              simp only [putsL]
              change quietTo _ _ _ _ (Sem.run _ (execOp (Act.eval (Act.put (Act.put (Act.put _ (some 44) (sv 2)) (some 43) (sv 1)) (some 42) (sv 0))) _) _)
              try simp only [Act.put, sIA, sCS, sCZ]
              simp [go_sem, quietTo, Ext.refl, f2]
              all_goals first
                | rfl
            refine fac_quiet 9 rfl rfl rfl (fun _ _ h _ => h) rfl rfl ?_
            apply Exists.intro
            refine ⟨fun sv w' hw' hfa => ?_, ?_⟩
            · obtain ⟨_, _, f2, f8, -⟩ := hfa
              replace f2 : sv 2 = _ := f2; (try dsimp only at f2); replace f8 : sv 8 = _ := f8; (try dsimp only at f8)
              have hk9 := (Ext.refl wr).drew.trans hw'; obtain ⟨hc9, hff, hz9⟩ := hk9.walk; obtain ⟨y0, -⟩ := (hXr.ext hk9).walk; have y2 := (hc9 _ _ l2).trans c2; have y3 := (hc9 _ _ l2).trans c3
              refine ⟨by simp [Region.wanted, yielded, putsL, Act.put, f2, f8], ?_⟩
              simp only [putsL]
              change quietTo _ _ _ _ (Sem.run _ (execOp (Act.eval (Act.put (Act.put (Act.put (Act.put _ (some 50) (sv 8)) (some 44) (sv 2)) (some 43) (sv 1)) (some 42) (sv 0))) _) _)
              try simp only [Act.put, sIA, sCS, sCZ]
              simp [go_sem, quietTo, Ext.refl, ↓IntWalk.iteOmega, f2, f8, y0]
              all_goals try simp (disch := omega) only [IntWalk.i64_in]
              all_goals first
                | rfl
            refine fac_quiet 10 rfl rfl rfl (fun _ _ h _ => h) rfl rfl ?_
            apply Exists.intro
            refine ⟨fun sv w' hw' hfa => ?_, ?_⟩
            · obtain ⟨_, _, f2, -⟩ := hfa
              replace f2 : sv 2 = _ := f2; (try dsimp only at f2)
              refine ⟨by simp [Region.wanted, yielded, putsL, Act.put, f2], ?_⟩
              simp only [putsL]
              change quietTo _ _ _ _ (Sem.run _ (execOp (Act.eval (Act.put (Act.put (Act.put _ (some 44) (sv 2)) (some 43) (sv 1)) (some 42) (sv 0))) _) _)
              try simp only [Act.put, sIA, sCS, sCZ]
              simp [go_sem, quietTo, Ext.refl, f2]
              all_goals first
                | rfl
            refine fac_quiet 11 rfl rfl rfl (fun _ _ h _ => h) rfl rfl ?_
            apply Exists.intro
            refine ⟨fun sv w' hw' hfa => ?_, ?_⟩
            · obtain ⟨_, _, f2, f10, -⟩ := hfa
              replace f2 : sv 2 = _ := f2; (try dsimp only at f2); replace f10 : sv 10 = _ := f10; (try dsimp only at f10)
              have hk9 := (Ext.refl wr).drew.trans hw'; obtain ⟨hc9, hff, hz9⟩ := hk9.walk; obtain ⟨y0, -⟩ := (hXr.ext hk9).walk; have y2 := (hc9 _ _ l2).trans c2; have y3 := (hc9 _ _ l2).trans c3
              refine ⟨by simp [Region.wanted, yielded, putsL, Act.put, f2, f10], ?_⟩
              simp only [putsL]
              change quietTo _ _ _ _ (Sem.run _ (execOp (Act.eval (Act.put (Act.put (Act.put (Act.put _ (some 52) (sv 10)) (some 44) (sv 2)) (some 43) (sv 1)) (some 42) (sv 0))) _) _)
              try simp only [Act.put, sIA, sCS, sCZ]
              simp [go_sem, quietTo, Ext.refl, ↓IntWalk.iteOmega, f2, f10, hwj]
              all_goals try simp (disch := omega) only [IntWalk.i64_in]
              all_goals first
                | rfl
            refine fac_quiet 12 rfl rfl rfl (fun _ _ h _ => h) rfl rfl ?_
            apply Exists.intro
            refine ⟨fun sv w' hw' hfa => ?_, ?_⟩
            · obtain ⟨_, _, f2, _, f9, _, f11, -⟩ := hfa
              replace f2 : sv 2 = _ := f2; (try dsimp only at f2); replace f9 : sv 9 = _ := f9; (try dsimp only at f9); replace f11 : sv 11 = _ := f11; (try dsimp only at f11)
              have hk9 := (Ext.refl wr).drew.trans hw'; obtain ⟨hc9, hff, hz9⟩ := hk9.walk; obtain ⟨y0, -⟩ := (hXr.ext hk9).walk; have y2 := (hc9 _ _ l2).trans c2; have y3 := (hc9 _ _ l2).trans c3
              refine ⟨by simp [Region.wanted, yielded, putsL, Act.put, f2, f9, f11], ?_⟩
              simp only [putsL]
              change quietTo _ _ _ _ (Sem.run _ (execOp (Act.eval (Act.put (Act.put (Act.put (Act.put (Act.put (Act.put (Act.put _ (some 53) (sv 11)) (some 52) (sv 10)) (some 51) (sv 9)) (some 50) (sv 8)) (some 44) (sv 2)) (some 43) (sv 1)) (some 42) (sv 0))) _) _)
              try simp only [Act.put, sIA, sCS, sCZ]
              simp [go_sem, quietTo, Ext.refl, ↓IntWalk.iteOmega, f2, f9, f11, hjl]
              all_goals try simp (disch := omega) only [IntWalk.i64_in]
              all_goals first
                | rfl
            refine fac_quiet 13 rfl rfl rfl (fun _ _ h _ => h) rfl rfl ?_
            apply Exists.intro
            refine ⟨fun sv w' hw' hfa => ?_, ?_⟩
            · obtain ⟨_, _, f2, _, _, _, _, f12, -⟩ := hfa
              replace f2 : sv 2 = _ := f2; (try dsimp only at f2); replace f12 : sv 12 = _ := f12; (try dsimp only at f12)
              have hk9 := (Ext.refl wr).drew.trans hw'; obtain ⟨hc9, hff, hz9⟩ := hk9.walk; obtain ⟨y0, -⟩ := (hXr.ext hk9).walk; have y2 := (hc9 _ _ l2).trans c2; have y3 := (hc9 _ _ l2).trans c3
              refine ⟨by simp [Region.wanted, yielded, putsL, Act.put, f2, f12], ?_⟩
              simp only [putsL]
              change quietTo _ _ _ _ (Sem.run _ (execOp (Act.eval (Act.put (Act.put (Act.put (Act.put (Act.put (Act.put (Act.put (Act.put _ (some 54) (sv 12)) (some 53) (sv 11)) (some 52) (sv 10)) (some 51) (sv 9)) (some 50) (sv 8)) (some 44) (sv 2)) (some 43) (sv 1)) (some 42) (sv 0))) _) _)
              try simp only [Act.put, sIA, sCS, sCZ]
              simp [go_sem, quietTo, Ext.refl, ↓IntWalk.iteOmega, f2, f12, y3]
              all_goals try simp (disch := omega) only [IntWalk.i64_in]
              all_goals first
                | rfl
            refine fac_quiet 14 rfl rfl rfl (fun _ _ h _ => h) rfl rfl ?_
            apply Exists.intro
            refine ⟨fun sv w' hw' hfa => ?_, ?_⟩
            · obtain ⟨_, _, f2, _, _, _, _, f7, _, _, _, _, _, f13, -⟩ := hfa
              replace f2 : sv 2 = _ := f2; (try dsimp only at f2); replace f7 : sv 7 = _ := f7; (try dsimp only at f7); replace f13 : sv 13 = _ := f13; (try dsimp only at f13)
              have hk9 := (Ext.refl wr).drew.trans hw'; obtain ⟨hc9, hff, hz9⟩ := hk9.walk; obtain ⟨y0, -⟩ := (hXr.ext hk9).walk; have y2 := (hc9 _ _ l2).trans c2; have y3 := (hc9 _ _ l2).trans c3
              refine ⟨by simp [Region.wanted, yielded, putsL, Act.put, f2, f7, f13], ?_⟩
              simp only [putsL]
              change quietTo _ _ _ _ (Sem.run _ (execOp (Act.eval (Act.put (Act.put (Act.put (Act.put (Act.put (Act.put (Act.put (Act.put (Act.put (Act.put (Act.put (Act.put (Act.put (Act.put _ (some 55) (sv 13)) (some 54) (sv 12)) (some 53) (sv 11)) (some 52) (sv 10)) (some 51) (sv 9)) (some 50) (sv 8)) (some 49) (sv 7)) (some 48) (sv 6)) (some 47) (sv 5)) (some 46) (sv 4)) (some 45) (sv 3)) (some 44) (sv 2)) (some 43) (sv 1)) (some 42) (sv 0))) _) _)
              try simp only [Act.put, sIA, sCS, sCZ]
              simp [go_sem, quietTo, Ext.refl, ↓IntWalk.iteOmega, f2, f7, f13, hlb]
              all_goals try simp (disch := omega) only [IntWalk.i64_in]
              all_goals first
                | rfl
            refine fac_quiet 15 rfl rfl rfl (fun _ _ h _ => h) rfl rfl ?_
            apply Exists.intro
            refine ⟨fun sv w' hw' hfa => ?_, ?_⟩
            · obtain ⟨_, _, f2, _, _, _, _, _, _, _, _, _, _, _, f14, -⟩ := hfa
              replace f2 : sv 2 = _ := f2; (try dsimp only at f2); replace f14 : sv 14 = _ := f14; (try dsimp only at f14)
              refine ⟨rfl, ?_⟩
              simp only [putsL]
              change quietTo _ _ _ _ (Sem.run _ (execOp (Act.eval (Act.put (Act.put (Act.put (Act.put (Act.put (Act.put (Act.put (Act.put (Act.put (Act.put (Act.put (Act.put (Act.put (Act.put (Act.put _ (some 56) (sv 14)) (some 55) (sv 13)) (some 54) (sv 12)) (some 53) (sv 11)) (some 52) (sv 10)) (some 51) (sv 9)) (some 50) (sv 8)) (some 49) (sv 7)) (some 48) (sv 6)) (some 47) (sv 5)) (some 46) (sv 4)) (some 45) (sv 3)) (some 44) (sv 2)) (some 43) (sv 1)) (some 42) (sv 0))) _) _)
              try simp only [Act.put, sIA, sCS, sCZ]
              simp [go_sem, quietTo, Ext.refl, ↓IntWalk.iteOmega, f2, f14]
              all_goals try simp (disch := omega) only [IntWalk.i64_in]
              all_goals first
                | rfl
            refine fac_nil fun xb wrb herb hfrb hcrb holdb hapb => ?_
            obtain ⟨f0, f1, f2, f3, f4, f5, f6, f7, f8, f9, f10, f11, f12, f13, f14, f15, -⟩ := hfrb
            replace f0 : xb 0 = _ := f0
            (try dsimp only at f0)
            replace f1 : xb 1 = _ := f1
            (try dsimp only at f1)
            replace f2 : xb 2 = _ := f2
            (try dsimp only at f2)
            replace f3 : xb 3 = _ := f3
            (try dsimp only at f3)
            replace f4 : xb 4 = _ := f4
            (try dsimp only at f4)
            replace f5 : xb 5 = _ := f5
            (try dsimp only at f5)
            replace f6 : xb 6 = _ := f6
            (try dsimp only at f6)
            replace f7 : xb 7 = _ := f7
            (try dsimp only at f7)
            replace f8 : xb 8 = _ := f8
            (try dsimp only at f8)
            replace f9 : xb 9 = _ := f9
            (try dsimp only at f9)
            replace f10 : xb 10 = _ := f10
            (try dsimp only at f10)
            replace f11 : xb 11 = _ := f11
            (try dsimp only at f11)
            replace f12 : xb 12 = _ := f12
            (try dsimp only at f12)
            replace f13 : xb 13 = _ := f13
            (try dsimp only at f13)
            replace f14 : xb 14 = _ := f14
            (try dsimp only at f14)
            replace f15 : xb 15 = _ := f15
            (try dsimp only at f15)
            change wpList _ _ _ _ (Act.put (Act.put (Act.put (Act.put (Act.put (Act.put (Act.put (Act.put (Act.put (Act.put (Act.put (Act.put (Act.put (Act.put (Act.put (Act.put _ (some 42) (xb 0)) (some 43) (xb 1)) (some 44) (xb 2)) (some 45) (xb 3)) (some 46) (xb 4)) (some 47) (xb 5)) (some 48) (xb 6)) (some 49) (xb 7)) (some 50) (xb 8)) (some 51) (xb 9)) (some 52) (xb 10)) (some 53) (xb 11)) (some 54) (xb 12)) (some 55) (xb 13)) (some 56) (xb 14)) (some 57) (xb 15)) _
            simp only [putsL, Nat.reduceAdd, List.drop_succ_cons, List.drop_zero, List.drop_nil, Act.put, sIA, sCS, sCZ]
            try simp only [f0, f1, f2, f3, f4, f5, f6, f7, f8, f9, f10, f11, f12, f13, f14, f15]
            clear f0 f1 f2 f3 f4 f5 f6 f7 f8 f9 f10 f11 f12 f13 f14 f15; clear holdb hapb
            go_wp2
            first
              | (go_ret
                 exact ⟨ret_int (by exact scan_is hz hlt (by rw [hv.out, hk1, hk2]; simp [hlb]) (by decide)), hEw.trans ((Ext.refl _).drew.trans herb)⟩)
              | (go_roundw
                 case rel => exact ⟨j + 1 + 1, by omega, by go_num, hz.succ (by rw [hv.out, hk1, hk2]; simp [hlb]), he.trans ((Ext.refl _).drew.trans herb)⟩
                 case measure => simp [intOf]; omega)
      · go_wp2
        go_ret
        exact ⟨ret_int (by exact (scan_zero (by rw [show m = k by omega]; exact hz)).symm), hE0.trans he⟩
  · have hr : stageF wide high = 3 := by rw [hF.out, if_neg h0, if_neg h10, if_pos (by simpa using hl)]
    have hlI : ((high.length : Int) == (wide.length : Int)) = false := by simp; omega
    have hlN : ¬ (high.length : Int) = (wide.length : Int) := by omega
    rw [hr]
    clear hr hF hw hh sw sh; replace h0 := Lib.hid h0; replace hl := Lib.hid hl
    go_enter Tryz.func88, Tryz.ntmps88
    go_wp2
    go_ret
    exact ⟨rfl, hE0⟩
end Go.Proofs.YtdehmioobkneiaaGreatDoor
