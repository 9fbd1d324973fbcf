/- What is wrong with people, by both texts: the walks. Conditions: sizes. -/
import Derived.Test.YtdehmioobkneiaaGreatDoorTdJ9
set_option linter.unusedSimpArgs false
set_option linter.unusedVariables false
namespace Go.Proofs.YtdehmioobkneiaaGreatDoor
open Go Go.RowKit
set_option maxRecDepth 100000 in
set_option maxHeartbeats 1600000 in
theorem checkPeople_any (p : Option Addr) (n c : Nat) (xs : List PersonV) (w : World) (h : Sl 3 perC w p n xs) (hs : ∀ x ∈ xs, x.Small) (hn : n ≤ 1000) :
    Calls Tryz.prog 87 #[.slice p n c] w fun e w' => e = .returned (.int .i64 (peopleF xs)) ∧ Ext w w' := by
  have hl := h.1
  have hF : peopleF xs = if 200 < n then 2 else scanF n (chkPer xs) := by unfold peopleF; rw [hl]
  replace hF := Lib.hid hF
  by_cases h12 : 200 < n
  · clear h hl hs
    go_enter Tryz.func87, Tryz.ntmps87
    go_wp2
    go_ret
    exact ⟨ret_int (by rw [hF.out, if_pos h12]), Ext.refl _⟩
  by_cases h0 : n = 0
  · subst h0
    clear h hs
    go_enter Tryz.func87, Tryz.ntmps87
    go_wp2
    refine wp_loop_rounds 1 ?_
    rw [rounds_succ]
    go_wp2
    go_ret
    exact ⟨ret_int (by rw [hF.out]; rfl), Ext.refl _⟩
  · obtain ⟨b, off, rfl, hb, hE⟩ := h.2.2 h0
    clear h; replace hl := Lib.hid hl; replace h0 := Lib.hid h0
    have hd : decide (200 < (n : Int)) = false := by simp; omega
    go_enter Tryz.func87, Tryz.ntmps87
    go_wp2
    go_loopw [10] (fun i w' => ∃ k : Nat, k ≤ n ∧ i = .int .i64 k ∧ Zeros (chkPer xs) k ∧ Ext w w') (fun i _ => n - (intOf i).toNat)
    case atStart => exact ⟨0, Nat.zero_le _, rfl, (fun j hj => by omega), Ext.refl _⟩
    case round =>
      obtain ⟨k, hk, rfl, hz, he⟩ := hrel
      have hbw := Nat.lt_of_lt_of_le hb he.size
      by_cases hlt : k < n
      · obtain ⟨x, hx⟩ := getD_some hl.out hlt
        obtain ⟨s1, s2, s3, s4⟩ := hs x (List.mem_of_getElem? hx)
        obtain ⟨c0, c1, c2⟩ := (hE.ext he hb).per hx
        have hv : chkPer xs k = if keyB x.name && keyB x.sect then (if inB x.high 500 2500 then (if 0 < k && leB x.name (atL default xs (k - 1)).name then 7 else 0) else 1) else 5 := by
          unfold chkPer; rw [atL_of hx]
        have hprev : ∀ j y, k = j + 1 → xs[j]? = some y → wr.cell? ⟨b, off + j * 3, none⟩ = some (.string y.name) := fun j y _ hy => ((hE.ext he hb).per hy).1
        replace hx := Lib.hid hx; replace hv := Lib.hid hv; replace hprev := Lib.hid hprev
        have hX := Blk.new' (w := wr) (t := 42) (cs := #[.string x.name, .int .i64 x.high, .string x.sect]) rfl
        replace hX := Lib.hid hX; replace hs := Lib.hid hs
        cases hk1 : keyB x.name
        · go_wp2_with (go_at_call 80; (with_reducible refine Calls.mono (isKey_is hk1 (by omega) _) ?_); rintro e w1 ⟨rfl, hb1⟩; obtain ⟨p1, q1⟩ := (hX.out.ext hb1).walk; have lt1 := (hX.out.ext hb1).lt)
          go_ret
          exact ⟨ret_int (by rw [hF.out, if_neg h12]; exact scan_is hz hlt (by rw [hv.out, hk1]; rfl) (by decide)), (he.alloc _).trans hb1⟩
        cases hk2 : keyB x.sect
        · go_wp2_with (first
            | (go_at_call 80; (with_reducible refine Calls.mono (isKey_is hk1 (by omega) _) ?_); rintro e w1 ⟨rfl, hb1⟩; obtain ⟨p1, q1⟩ := (hX.out.ext hb1).walk; have lt1 := (hX.out.ext hb1).lt)
            | (go_at_call 80; (with_reducible refine Calls.mono (isKey_is hk2 (by omega) _) ?_); rintro e w2 ⟨rfl, hb2⟩; clear p1 q1; obtain ⟨p2, q2⟩ := ((hX.out.ext hb1).ext hb2).walk; have lt2 := ((hX.out.ext hb1).ext hb2).lt))
          go_ret
          exact ⟨ret_int (by rw [hF.out, if_neg h12]; exact scan_is hz hlt (by rw [hv.out, hk1, hk2]; rfl) (by decide)), ((he.alloc _).trans hb1).trans hb2⟩
        cases hk4 : inB x.high 500 2500
        · have hk4' : outB x.high 500 2500 = true := by rw [outB_inB, hk4]; rfl
          go_wp2_with (first
            | (go_at_call 80; (with_reducible refine Calls.mono (isKey_is hk1 (by omega) _) ?_); rintro e w1 ⟨rfl, hb1⟩; obtain ⟨p1, q1⟩ := (hX.out.ext hb1).walk; have lt1 := (hX.out.ext hb1).lt)
            | (go_at_call 80; (with_reducible refine Calls.mono (isKey_is hk2 (by omega) _) ?_); rintro e w2 ⟨rfl, hb2⟩; clear p1 q1; obtain ⟨p2, q2⟩ := ((hX.out.ext hb1).ext hb2).walk; have lt2 := ((hX.out.ext hb1).ext hb2).lt)
            | (go_at_call 42; (with_reducible refine Calls.mono (outside_any _ _ _ _) ?_); rintro e w4 ⟨rfl, rfl⟩))
          go_ret
          exact ⟨ret_int (by rw [hF.out, if_neg h12]; exact scan_is hz hlt (by rw [hv.out, hk1, hk2, hk4]; rfl) (by decide)), ((he.alloc _).trans hb1).trans hb2⟩
        have hk4' : outB x.high 500 2500 = false := by rw [outB_inB, hk4]; rfl
        go_upto_region 10 with (first
            | (go_at_call 80; (with_reducible refine Calls.mono (isKey_is hk1 (by omega) _) ?_); rintro e w1 ⟨rfl, hb1⟩; obtain ⟨p1, q1⟩ := (hX.out.ext hb1).walk; have lt1 := (hX.out.ext hb1).lt)
            | (go_at_call 80; (with_reducible refine Calls.mono (isKey_is hk2 (by omega) _) ?_); rintro e w2 ⟨rfl, hb2⟩; clear p1 q1; obtain ⟨p2, q2⟩ := ((hX.out.ext hb1).ext hb2).walk; have lt2 := ((hX.out.ext hb1).ext hb2).lt)
            | (go_at_call 42; (with_reducible refine Calls.mono (outside_any _ _ _ _) ?_); rintro e w4 ⟨rfl, rfl⟩))
        have hX2 := (hX.out.ext hb1).ext hb2
        have he2 : Ext w w2 := ((he.alloc _).trans hb1).trans hb2
        have hbk : Ext wr w2 := (((Ext.refl wr).alloc _).trans hb1).trans hb2
        rcases Nat.eq_zero_or_pos k with hk0 | hk0
        · subst hk0
          have hz0 : ((0 : Nat) : Int) = 0 := rfl
          refine wp_region_facts [] [([], false, false), ([0], false, false), ([0, 1], false, false), ([0, 1, 2], false, false), ([0, 1, 2, 3], false, false), ([0, 1, 2], false, false), ([0, 1, 2], false, false), ([0, 1, 2, 6], false, false), ([0, 1, 2, 5, 6, 7], false, false), ([0, 1, 2, 5, 6, 7, 8], false, false), ([0, 1, 2, 5, 6, 7, 8, 9], false, false), ([0, 1, 2, 3, 4, 5, 6, 7, 8, 9, 10], false, false), ([0, 1, 2, 3, 4, 5, 6, 7, 8, 9, 10, 11], false, false), ([0, 1, 2, 3, 4, 5, 6, 7, 8, 9, 10, 11, 12], false, false)] (Ext) Ext (fun _ => True) (by kernel_rfl) (by kernel_rfl) Ext.refl (fun _ _ _ => Ext.trans) (fun _ _ h => h) (fun _ _ h => h.size) (fun _ _ h _ => h) trivial ?_
          dsimp only [List.length_cons, List.length_nil, List.drop_succ_cons, List.drop_zero, List.drop_nil]
          refine fac_quiet 0 rfl rfl rfl (fun _ _ h _ => h) rfl rfl ?_
          apply Exists.intro
          refine ⟨fun sv w' hw' hfa => ?_, ?_⟩
          · refine ⟨rfl, ?_⟩
            simp only [putsL]
            change quietTo _ _ _ _ (Sem.run _ (execOp (Act.eval _) _) _)
            try simp only [Act.put, sIA, sCS, sCZ]
            simp [go_sem, quietTo, Ext.refl]
            all_goals first
              | rfl
          refine fac_quiet 1 rfl rfl rfl (fun _ _ h _ => h) rfl rfl ?_
          apply Exists.intro
          refine ⟨fun sv w' hw' hfa => ?_, ?_⟩
          · obtain ⟨f0, -⟩ := hfa
            replace f0 : sv 0 = _ := f0; (try dsimp only at f0)
            refine ⟨rfl, ?_⟩
            simp only [putsL]
            change quietTo _ _ _ _ (Sem.run _ (execOp (Act.eval (Act.put _ (some 31) (sv 0))) _) _)
            try simp only [Act.put, sIA, sCS, sCZ]
            simp [go_sem, quietTo, Ext.refl, ↓IntWalk.iteOmega, f0, hz0]
            all_goals try simp (disch := omega) only [IntWalk.i64_in]
            all_goals first
              | rfl
          refine fac_quiet 2 rfl rfl rfl (fun _ _ h _ => h) rfl rfl ?_
          apply Exists.intro
          refine ⟨fun sv w' hw' hfa => ?_, ?_⟩
          · obtain ⟨_, f1, -⟩ := hfa
            replace f1 : sv 1 = _ := f1; (try dsimp only at f1)
            refine ⟨rfl, ?_⟩
            simp only [putsL]
            change quietTo _ _ _ _ (Sem.run _ (execOp (Act.eval (Act.put (Act.put _ (some 32) (sv 1)) (some 31) (sv 0))) _) _)
            try simp only [Act.put, sIA, sCS, sCZ]
            simp [go_sem, quietTo, Ext.refl, f1]
            all_goals first
              | rfl
          refine fac_skip 3 rfl rfl rfl (fun _ _ h _ => h) Ext.refl ?_ ?_
          · intro sv w' hw' hfa
            obtain ⟨f0, f1, f2, -⟩ := hfa
            replace f0 : sv 0 = _ := f0; (try dsimp only at f0); replace f1 : sv 1 = _ := f1; (try dsimp only at f1); replace f2 : sv 2 = _ := f2; (try dsimp only at f2)
            simp [Region.wanted, yielded, putsL, Act.put, f2]
          refine fac_skip 4 rfl rfl rfl (fun _ _ h _ => h) Ext.refl ?_ ?_
          · intro sv w' hw' hfa
            obtain ⟨f0, f1, f2, f3, -⟩ := hfa
            replace f0 : sv 0 = _ := f0; (try dsimp only at f0); replace f1 : sv 1 = _ := f1; (try dsimp only at f1); replace f2 : sv 2 = _ := f2; (try dsimp only at f2); replace f3 : sv 3 = _ := f3; (try dsimp only at f3)
            simp [Region.wanted, yielded, putsL, Act.put, f2, f3]
          refine fac_skip 5 rfl rfl rfl (fun _ _ h _ => h) Ext.refl ?_ ?_
          · intro sv w' hw' hfa
            obtain ⟨f0, f1, f2, -⟩ := hfa
            replace f0 : sv 0 = _ := f0; (try dsimp only at f0); replace f1 : sv 1 = _ := f1; (try dsimp only at f1); replace f2 : sv 2 = _ := f2; (try dsimp only at f2)
            simp [Region.wanted, yielded, putsL, Act.put, f2]
          refine fac_skip 6 rfl rfl rfl (fun _ _ h _ => h) Ext.refl ?_ ?_
          · intro sv w' hw' hfa
            obtain ⟨f0, f1, f2, -⟩ := hfa
            replace f0 : sv 0 = _ := f0; (try dsimp only at f0); replace f1 : sv 1 = _ := f1; (try dsimp only at f1); replace f2 : sv 2 = _ := f2; (try dsimp only at f2)
            simp [Region.wanted, yielded, putsL, Act.put, f2]
          refine fac_skip 7 rfl rfl rfl (fun _ _ h _ => h) Ext.refl ?_ ?_
          · intro sv w' hw' hfa
            obtain ⟨f0, f1, f2, f6, -⟩ := hfa
            replace f0 : sv 0 = _ := f0; (try dsimp only at f0); replace f1 : sv 1 = _ := f1; (try dsimp only at f1); replace f2 : sv 2 = _ := f2; (try dsimp only at f2); replace f6 : sv 6 = _ := f6; (try dsimp only at f6)
            simp [Region.wanted, yielded, putsL, Act.put, f2, f6]
          refine fac_skip 8 rfl rfl rfl (fun _ _ h _ => h) Ext.refl ?_ ?_
          · intro sv w' hw' hfa
            obtain ⟨f0, f1, f2, f5, f6, f7, -⟩ := hfa
            replace f0 : sv 0 = _ := f0; (try dsimp only at f0); replace f1 : sv 1 = _ := f1; (try dsimp only at f1); replace f2 : sv 2 = _ := f2; (try dsimp only at f2); replace f5 : sv 5 = _ := f5; (try dsimp only at f5); replace f6 : sv 6 = _ := f6; (try dsimp only at f6); replace f7 : sv 7 = _ := f7; (try dsimp only at f7)
            simp [Region.wanted, yielded, putsL, Act.put, f2, f5, f7]
          refine fac_skip 9 rfl rfl rfl (fun _ _ h _ => h) Ext.refl ?_ ?_
          · intro sv w' hw' hfa
            obtain ⟨f0, f1, f2, f5, f6, f7, f8, -⟩ := hfa
            replace f0 : sv 0 = _ := f0; (try dsimp only at f0); replace f1 : sv 1 = _ := f1; (try dsimp only at f1); replace f2 : sv 2 = _ := f2; (try dsimp only at f2); replace f5 : sv 5 = _ := f5; (try dsimp only at f5); replace f6 : sv 6 = _ := f6; (try dsimp only at f6); replace f7 : sv 7 = _ := f7; (try dsimp only at f7); replace f8 : sv 8 = _ := f8; (try dsimp only at f8)
            simp [Region.wanted, yielded, putsL, Act.put, f2, f8]
          refine fac_skip 10 rfl rfl rfl (fun _ _ h _ => h) Ext.refl ?_ ?_
          · intro sv w' hw' hfa
            obtain ⟨f0, f1, f2, f5, f6, f7, f8, f9, -⟩ := hfa
            replace f0 : sv 0 = _ := f0; (try dsimp only at f0); replace f1 : sv 1 = _ := f1; (try dsimp only at f1); replace f2 : sv 2 = _ := f2; (try dsimp only at f2); replace f5 : sv 5 = _ := f5; (try dsimp only at f5); replace f6 : sv 6 = _ := f6; (try dsimp only at f6); replace f7 : sv 7 = _ := f7; (try dsimp only at f7); replace f8 : sv 8 = _ := f8; (try dsimp only at f8)
            replace f9 : sv 9 = _ := f9; (try dsimp only at f9)
            simp [Region.wanted, yielded, putsL, Act.put, f2, f9]
          refine fac_skip 11 rfl rfl rfl (fun _ _ h _ => h) Ext.refl ?_ ?_
          · intro sv w' hw' hfa
            obtain ⟨f0, f1, f2, f3, f4, f5, f6, f7, f8, f9, f10, -⟩ := hfa
            replace f0 : sv 0 = _ := f0; (try dsimp only at f0); replace f1 : sv 1 = _ := f1; (try dsimp only at f1); replace f2 : sv 2 = _ := f2; (try dsimp only at f2); replace f3 : sv 3 = _ := f3; (try dsimp only at f3); replace f4 : sv 4 = _ := f4; (try dsimp only at f4); replace f5 : sv 5 = _ := f5; (try dsimp only at f5); replace f6 : sv 6 = _ := f6; (try dsimp only at f6)
            replace f7 : sv 7 = _ := f7; (try dsimp only at f7); replace f8 : sv 8 = _ := f8; (try dsimp only at f8); replace f9 : sv 9 = _ := f9; (try dsimp only at f9); replace f10 : sv 10 = _ := f10; (try dsimp only at f10)
            simp [Region.wanted, yielded, putsL, Act.put, f2, f4, f10]
          refine fac_quiet 12 rfl rfl rfl (fun _ _ h _ => h) rfl rfl ?_
          apply Exists.intro
          refine ⟨fun sv w' hw' hfa => ?_, ?_⟩
          · obtain ⟨_, _, f2, _, _, _, _, _, _, _, _, f11, -⟩ := hfa
            replace f2 : sv 2 = _ := f2; (try dsimp only at f2); replace f11 : sv 11 = _ := f11; (try dsimp only at f11)
            refine ⟨rfl, ?_⟩
            simp only [putsL]
            change quietTo _ _ _ _ (Sem.run _ (execOp (Act.eval (Act.put (Act.put (Act.put (Act.put (Act.put (Act.put (Act.put (Act.put (Act.put (Act.put (Act.put (Act.put _ (some 42) (sv 11)) (some 41) (sv 10)) (some 40) (sv 9)) (some 39) (sv 8)) (some 38) (sv 7)) (some 37) (sv 6)) (some 36) (sv 5)) (some 35) (sv 4)) (some 34) (sv 3)) (some 33) (sv 2)) (some 32) (sv 1)) (some 31) (sv 0))) _) _)
            try simp only [Act.put, sIA, sCS, sCZ]
            simp [go_sem, quietTo, Ext.refl, ↓IntWalk.iteOmega, f2, f11, hz0]
            all_goals try simp (disch := omega) only [IntWalk.i64_in]
            all_goals first
              | rfl
          refine fac_quiet 13 rfl rfl rfl (fun _ _ h _ => h) rfl rfl ?_
          apply Exists.intro
          refine ⟨fun sv w' hw' hfa => ?_, ?_⟩
          · obtain ⟨_, _, _, _, _, _, _, _, _, _, _, _, f12, -⟩ := hfa
            replace f12 : sv 12 = _ := f12; (try dsimp only at f12)
            refine ⟨rfl, ?_⟩
            simp only [putsL]
            change quietTo _ _ _ _ (Sem.run _ (execOp (Act.eval (Act.put (Act.put (Act.put (Act.put (Act.put (Act.put (Act.put (Act.put (Act.put (Act.put (Act.put (Act.put (Act.put _ (some 43) (sv 12)) (some 42) (sv 11)) (some 41) (sv 10)) (some 40) (sv 9)) (some 39) (sv 8)) (some 38) (sv 7)) (some 37) (sv 6)) (some 36) (sv 5)) (some 35) (sv 4)) (some 34) (sv 3)) (some 33) (sv 2)) (some 32) (sv 1)) (some 31) (sv 0))) _) _)
            try simp only [Act.put, sIA, sCS, sCZ]
            simp [go_sem, quietTo, Ext.refl, f12]
            all_goals first
              | rfl
          refine fac_nil fun xa wra hera hfra hcra holda hapa => ?_
          obtain ⟨f0, f1, f2, f3, f4, f5, f6, f7, f8, f9, f10, f11, f12, f13, -⟩ := hfra
          replace f0 : xa 0 = _ := f0
          (try dsimp only at f0)
          replace f1 : xa 1 = _ := f1
          (try dsimp only at f1)
          replace f2 : xa 2 = _ := f2
          (try dsimp only at f2)
          replace f3 : xa 3 = _ := f3
          (try dsimp only at f3)
          replace f4 : xa 4 = _ := f4
          (try dsimp only at f4)
          replace f5 : xa 5 = _ := f5
          (try dsimp only at f5)
          replace f6 : xa 6 = _ := f6
          (try dsimp only at f6)
          replace f7 : xa 7 = _ := f7
          (try dsimp only at f7)
          replace f8 : xa 8 = _ := f8
          (try dsimp only at f8)
          replace f9 : xa 9 = _ := f9
          (try dsimp only at f9)
          replace f10 : xa 10 = _ := f10
          (try dsimp only at f10)
          replace f11 : xa 11 = _ := f11
          (try dsimp only at f11)
          replace f12 : xa 12 = _ := f12
          (try dsimp only at f12)
          replace f13 : xa 13 = _ := f13
          (try dsimp only at f13)
          change wpList _ _ _ _ (Act.put (Act.put (Act.put (Act.put (Act.put (Act.put (Act.put (Act.put (Act.put (Act.put (Act.put (Act.put (Act.put (Act.put _ (some 31) (xa 0)) (some 32) (xa 1)) (some 33) (xa 2)) (some 34) (xa 3)) (some 35) (xa 4)) (some 36) (xa 5)) (some 37) (xa 6)) (some 38) (xa 7)) (some 39) (xa 8)) (some 40) (xa 9)) (some 41) (xa 10)) (some 42) (xa 11)) (some 43) (xa 12)) (some 30) (xa 13)) _
          simp only [putsL, Nat.reduceAdd, List.drop_succ_cons, List.drop_zero, List.drop_nil, Act.put, sIA, sCS, sCZ]
          try simp only [f0, f1, f2, f3, f4, f5, f6, f7, f8, f9, f10, f11, f12, f13]
          clear f0 f1 f2 f3 f4 f5 f6 f7 f8 f9 f10 f11 f12 f13; clear holda hapa; clear p2 q2 hb1 hb2 hX hX2 hprev c0 c1 c2
          go_wp2
          go_roundw
          case rel => exact ⟨1, by omega, rfl, hz.succ (by rw [hv.out, hk1, hk2, hk4]; rfl), he2.trans ((Ext.refl _).drew.trans hera)⟩
          case measure => simp [intOf]; omega
        · obtain ⟨j, rfl⟩ : ∃ j, k = j + 1 := ⟨k - 1, by omega⟩
          obtain ⟨y, hy⟩ := getD_some hl.out (show j < n by omega)
          have d0 := hprev.out j y rfl hy
          have hat : atL default xs (j + 1 - 1) = y := by rw [Nat.add_sub_cancel]; exact atL_of hy
          rw [hat] at hv
          have hwj : IntKind.i64.wrap (j : Int) = j := IntWalk.i64_in _ (by omega)
          have hjl : (j : Int) < n := by omega
          have hj0 : 0 < (j : Int) + 1 := by omega
          clear hat hy hprev
          cases hlb : leB x.name y.name
          all_goals
            have hlc := hlb
            unfold leB at hlc
            refine wp_region_facts [] [([], false, false), ([0], false, false), ([0, 1], false, false), ([0, 1, 2], false, false), ([0, 1, 2, 3], false, false), ([0, 1, 2], false, false), ([0, 1, 2], false, false), ([0, 1, 2, 6], false, false), ([0, 1, 2, 5, 6, 7], false, false), ([0, 1, 2, 5, 6, 7, 8], false, false), ([0, 1, 2, 5, 6, 7, 8, 9], false, false), ([0, 1, 2, 3, 4, 5, 6, 7, 8, 9, 10], false, false), ([0, 1, 2, 3, 4, 5, 6, 7, 8, 9, 10, 11], false, false), ([0, 1, 2, 3, 4, 5, 6, 7, 8, 9, 10, 11, 12], false, false)] (Ext) Ext (fun _ => True) (by kernel_rfl) (by kernel_rfl) Ext.refl (fun _ _ _ => Ext.trans) (fun _ _ h => h) (fun _ _ h => h.size) (fun _ _ h _ => h) trivial ?_
            dsimp only [List.length_cons, List.length_nil, List.drop_succ_cons, List.drop_zero, List.drop_nil]
            refine fac_quiet 0 rfl rfl rfl (fun _ _ h _ => h) rfl rfl ?_
            apply Exists.intro
            refine ⟨fun sv w' hw' hfa => ?_, ?_⟩
            · refine ⟨rfl, ?_⟩
              simp only [putsL]
              change quietTo _ _ _ _ (Sem.run _ (execOp (Act.eval _) _) _)
              try simp only [Act.put, sIA, sCS, sCZ]
              simp [go_sem, quietTo, Ext.refl]
              all_goals first
                | rfl
            refine fac_quiet 1 rfl rfl rfl (fun _ _ h _ => h) rfl rfl ?_
            apply Exists.intro
            refine ⟨fun sv w' hw' hfa => ?_, ?_⟩
            · obtain ⟨f0, -⟩ := hfa
              replace f0 : sv 0 = _ := f0; (try dsimp only at f0)
              obtain ⟨hc, hf, hz9⟩ := (hbk.drew.trans hw').walk; obtain ⟨hc2, hf2, hz8⟩ := ((Ext.refl w2).drew.trans hw').walk; have y0 := (hc _ (off + j * 3) hbw).trans d0; have x0 := (hc2 _ 0 hX2.lt).trans (hX2.cell 0)
              refine ⟨rfl, ?_⟩
              simp only [putsL]
              change quietTo _ _ _ _ (Sem.run _ (execOp (Act.eval (Act.put _ (some 31) (sv 0))) _) _)
              try simp only [Act.put, sIA, sCS, sCZ]
              simp [go_sem, quietTo, Ext.refl, ↓IntWalk.iteOmega, f0, hj0]
              all_goals try simp (disch := omega) only [IntWalk.i64_in]
              all_goals first
                | rfl
            refine fac_quiet 2 rfl rfl rfl (fun _ _ h _ => h) rfl rfl ?_
            apply Exists.intro
            refine ⟨fun sv w' hw' hfa => ?_, ?_⟩
            · obtain ⟨_, f1, -⟩ := hfa
              replace f1 : sv 1 = _ := f1; (try dsimp only at f1)
              refine ⟨rfl, ?_⟩
              simp only [putsL]
              change quietTo _ _ _ _ (Sem.run _ (execOp (Act.eval (Act.put (Act.put _ (some 32) (sv 1)) (some 31) (sv 0))) _) _)
              try simp only [Act.put, sIA, sCS, sCZ]
              simp [go_sem, quietTo, Ext.refl, f1]
              all_goals first
                | rfl
            refine fac_quiet 3 rfl rfl rfl (fun _ _ h _ => h) rfl rfl ?_
            apply Exists.intro
            refine ⟨fun sv w' hw' hfa => ?_, ?_⟩
            · obtain ⟨_, _, f2, -⟩ := hfa
              replace f2 : sv 2 = _ := f2; (try dsimp only at f2)
              refine ⟨by simp [Region.wanted, yielded, putsL, Act.put, f2], ?_⟩
              simp only [putsL]
              change quietTo _ _ _ _ (Sem.run _ (execOp (Act.eval (Act.put (Act.put (Act.put _ (some 33) (sv 2)) (some 32) (sv 1)) (some 31) (sv 0))) _) _)
              try simp only [Act.put, sIA, sCS, sCZ]
              simp [go_sem, quietTo, Ext.refl, f2]
              all_goals first
                | rfl
            refine fac_quiet 4 rfl rfl rfl (fun _ _ h _ => h) rfl rfl ?_
            apply Exists.intro
            refine ⟨fun sv w' hw' hfa => ?_, ?_⟩
            · obtain ⟨_, _, f2, f3, -⟩ := hfa
              replace f2 : sv 2 = _ := f2; (try dsimp only at f2); replace f3 : sv 3 = _ := f3; (try dsimp only at f3)
              obtain ⟨hc, hf, hz9⟩ := (hbk.drew.trans hw').walk; obtain ⟨hc2, hf2, hz8⟩ := ((Ext.refl w2).drew.trans hw').walk; have y0 := (hc _ (off + j * 3) hbw).trans d0; have x0 := (hc2 _ 0 hX2.lt).trans (hX2.cell 0)
              refine ⟨by simp [Region.wanted, yielded, putsL, Act.put, f2, f3], ?_⟩
              simp only [putsL]
              change quietTo _ _ _ _ (Sem.run _ (execOp (Act.eval (Act.put (Act.put (Act.put (Act.put _ (some 34) (sv 3)) (some 33) (sv 2)) (some 32) (sv 1)) (some 31) (sv 0))) _) _)
              try simp only [Act.put, sIA, sCS, sCZ]
              simp [go_sem, quietTo, Ext.refl, ↓IntWalk.iteOmega, f2, f3, x0]
              all_goals try simp (disch := omega) only [IntWalk.i64_in]
              all_goals first
                | rfl
            refine fac_quiet 5 rfl rfl rfl (fun _ _ h _ => h) rfl rfl ?_
            apply Exists.intro
            refine ⟨fun sv w' hw' hfa => ?_, ?_⟩
            · obtain ⟨_, _, f2, -⟩ := hfa
              replace f2 : sv 2 = _ := f2; (try dsimp only at f2)
              refine ⟨by simp [Region.wanted, yielded, putsL, Act.put, f2], ?_⟩
              simp only [putsL]
              change quietTo _ _ _ _ (Sem.run _ (execOp (Act.eval (Act.put (Act.put (Act.put _ (some 33) (sv 2)) (some 32) (sv 1)) (some 31) (sv 0))) _) _)
              try simp only [Act.put, sIA, sCS, sCZ]
              simp [go_sem, quietTo, Ext.refl, f2]
              all_goals first
                | rfl
            refine fac_quiet 6 rfl rfl rfl (fun _ _ h _ => h) rfl rfl ?_
            apply Exists.intro
            refine ⟨fun sv w' hw' hfa => ?_, ?_⟩
            · obtain ⟨_, _, f2, -⟩ := hfa
              replace f2 : sv 2 = _ := f2; (try dsimp only at f2)
              refine ⟨by simp [Region.wanted, yielded, putsL, Act.put, f2], ?_⟩
              simp only [putsL]
              change quietTo _ _ _ _ (Sem.run _ (execOp (Act.eval (Act.put (Act.put (Act.put _ (some 33) (sv 2)) (some 32) (sv 1)) (some 31) (sv 0))) _) _)
              try simp only [Act.put, sIA, sCS, sCZ]
              simp [go_sem, quietTo, Ext.refl, f2]
              all_goals first
                | rfl
            refine fac_quiet 7 rfl rfl rfl (fun _ _ h _ => h) rfl rfl ?_
            apply Exists.intro
            refine ⟨fun sv w' hw' hfa => ?_, ?_⟩
            · obtain ⟨_, _, f2, f6, -⟩ := hfa
              replace f2 : sv 2 = _ := f2; (try dsimp only at f2); replace f6 : sv 6 = _ := f6; (try dsimp only at f6)
              obtain ⟨hc, hf, hz9⟩ := (hbk.drew.trans hw').walk; obtain ⟨hc2, hf2, hz8⟩ := ((Ext.refl w2).drew.trans hw').walk; have y0 := (hc _ (off + j * 3) hbw).trans d0; have x0 := (hc2 _ 0 hX2.lt).trans (hX2.cell 0)
              refine ⟨by simp [Region.wanted, yielded, putsL, Act.put, f2, f6], ?_⟩
              simp only [putsL]
              change quietTo _ _ _ _ (Sem.run _ (execOp (Act.eval (Act.put (Act.put (Act.put (Act.put _ (some 37) (sv 6)) (some 33) (sv 2)) (some 32) (sv 1)) (some 31) (sv 0))) _) _)
              try simp only [Act.put, sIA, sCS, sCZ]
              simp [go_sem, quietTo, Ext.refl, ↓IntWalk.iteOmega, f2, f6, hwj]
              all_goals try simp (disch := omega) only [IntWalk.i64_in]
              all_goals first
                | rfl
            refine fac_quiet 8 rfl rfl rfl (fun _ _ h _ => h) rfl rfl ?_
            apply Exists.intro
            refine ⟨fun sv w' hw' hfa => ?_, ?_⟩
            · obtain ⟨_, _, f2, f5, _, f7, -⟩ := hfa
              replace f2 : sv 2 = _ := f2; (try dsimp only at f2); replace f5 : sv 5 = _ := f5; (try dsimp only at f5); replace f7 : sv 7 = _ := f7; (try dsimp only at f7)
              obtain ⟨hc, hf, hz9⟩ := (hbk.drew.trans hw').walk; obtain ⟨hc2, hf2, hz8⟩ := ((Ext.refl w2).drew.trans hw').walk; have y0 := (hc _ (off + j * 3) hbw).trans d0; have x0 := (hc2 _ 0 hX2.lt).trans (hX2.cell 0)
              refine ⟨by simp [Region.wanted, yielded, putsL, Act.put, f2, f5, f7], ?_⟩
              simp only [putsL]
              change quietTo _ _ _ _ (Sem.run _ (execOp (Act.eval (Act.put (Act.put (Act.put (Act.put (Act.put (Act.put _ (some 38) (sv 7)) (some 37) (sv 6)) (some 36) (sv 5)) (some 33) (sv 2)) (some 32) (sv 1)) (some 31) (sv 0))) _) _)
              try simp only [Act.put, sIA, sCS, sCZ]
              simp [go_sem, quietTo, Ext.refl, ↓IntWalk.iteOmega, f2, f5, f7, hjl]
              all_goals try simp (disch := omega) only [IntWalk.i64_in]
              all_goals first
                | rfl
            refine fac_quiet 9 rfl rfl rfl (fun _ _ h _ => h) rfl rfl ?_
            apply Exists.intro
            refine ⟨fun sv w' hw' hfa => ?_, ?_⟩
            · obtain ⟨_, _, f2, _, _, _, f8, -⟩ := hfa
              replace f2 : sv 2 = _ := f2; (try dsimp only at f2); replace f8 : sv 8 = _ := f8; (try dsimp only at f8)
              refine ⟨by simp [Region.wanted, yielded, putsL, Act.put, f2, f8], ?_⟩
              simp only [putsL]
              change quietTo _ _ _ _ (Sem.run _ (execOp (Act.eval (Act.put (Act.put (Act.put (Act.put (Act.put (Act.put (Act.put _ (some 39) (sv 8)) (some 38) (sv 7)) (some 37) (sv 6)) (some 36) (sv 5)) (some 33) (sv 2)) (some 32) (sv 1)) (some 31) (sv 0))) _) _)
              try simp only [Act.put, sIA, sCS, sCZ]
              simp [go_sem, quietTo, Ext.refl, f2, f8]
              all_goals first
                | rfl
            refine fac_quiet 10 rfl rfl rfl (fun _ _ h _ => h) rfl rfl ?_
            apply Exists.intro
            refine ⟨fun sv w' hw' hfa => ?_, ?_⟩
            · obtain ⟨_, _, f2, _, _, _, _, f9, -⟩ := hfa
              replace f2 : sv 2 = _ := f2; (try dsimp only at f2); replace f9 : sv 9 = _ := f9; (try dsimp only at f9)
              obtain ⟨hc, hf, hz9⟩ := (hbk.drew.trans hw').walk; obtain ⟨hc2, hf2, hz8⟩ := ((Ext.refl w2).drew.trans hw').walk; have y0 := (hc _ (off + j * 3) hbw).trans d0; have x0 := (hc2 _ 0 hX2.lt).trans (hX2.cell 0)
              refine ⟨by simp [Region.wanted, yielded, putsL, Act.put, f2, f9], ?_⟩
              simp only [putsL]
              change quietTo _ _ _ _ (Sem.run _ (execOp (Act.eval (Act.put (Act.put (Act.put (Act.put (Act.put (Act.put (Act.put (Act.put _ (some 40) (sv 9)) (some 39) (sv 8)) (some 38) (sv 7)) (some 37) (sv 6)) (some 36) (sv 5)) (some 33) (sv 2)) (some 32) (sv 1)) (some 31) (sv 0))) _) _)
              try simp only [Act.put, sIA, sCS, sCZ]
              simp [go_sem, quietTo, Ext.refl, ↓IntWalk.iteOmega, f2, f9, y0]
              all_goals try simp (disch := omega) only [IntWalk.i64_in]
              all_goals first
                | rfl
            refine fac_quiet 11 rfl rfl rfl (fun _ _ h _ => h) rfl rfl ?_
            apply Exists.intro
            refine ⟨fun sv w' hw' hfa => ?_, ?_⟩
            · obtain ⟨_, _, f2, _, f4, _, _, _, _, _, f10, -⟩ := hfa
              replace f2 : sv 2 = _ := f2; (try dsimp only at f2); replace f4 : sv 4 = _ := f4; (try dsimp only at f4); replace f10 : sv 10 = _ := f10; (try dsimp only at f10)
              obtain ⟨hc, hf, hz9⟩ := (hbk.drew.trans hw').walk; obtain ⟨hc2, hf2, hz8⟩ := ((Ext.refl w2).drew.trans hw').walk; have y0 := (hc _ (off + j * 3) hbw).trans d0; have x0 := (hc2 _ 0 hX2.lt).trans (hX2.cell 0)
              refine ⟨by simp [Region.wanted, yielded, putsL, Act.put, f2, f4, f10], ?_⟩
              simp only [putsL]
              change quietTo _ _ _ _ (Sem.run _ (execOp (Act.eval (Act.put (Act.put (Act.put (Act.put (Act.put (Act.put (Act.put (Act.put (Act.put (Act.put (Act.put _ (some 41) (sv 10)) (some 40) (sv 9)) (some 39) (sv 8)) (some 38) (sv 7)) (some 37) (sv 6)) (some 36) (sv 5)) (some 35) (sv 4)) (some 34) (sv 3)) (some 33) (sv 2)) (some 32) (sv 1)) (some 31) (sv 0))) _) _)
              try simp only [Act.put, sIA, sCS, sCZ]
              simp [go_sem, quietTo, Ext.refl, ↓IntWalk.iteOmega, f2, f4, f10, hlc]
              all_goals try simp (disch := omega) only [IntWalk.i64_in]
              all_goals first
                | rfl
            refine fac_quiet 12 rfl rfl rfl (fun _ _ h _ => h) rfl rfl ?_
            apply Exists.intro
            refine ⟨fun sv w' hw' hfa => ?_, ?_⟩
            · obtain ⟨_, _, f2, _, _, _, _, _, _, _, _, f11, -⟩ := hfa
              replace f2 : sv 2 = _ := f2; (try dsimp only at f2); replace f11 : sv 11 = _ := f11; (try dsimp only at f11)
              refine ⟨rfl, ?_⟩
              simp only [putsL]
              change quietTo _ _ _ _ (Sem.run _ (execOp (Act.eval (Act.put (Act.put (Act.put (Act.put (Act.put (Act.put (Act.put (Act.put (Act.put (Act.put (Act.put (Act.put _ (some 42) (sv 11)) (some 41) (sv 10)) (some 40) (sv 9)) (some 39) (sv 8)) (some 38) (sv 7)) (some 37) (sv 6)) (some 36) (sv 5)) (some 35) (sv 4)) (some 34) (sv 3)) (some 33) (sv 2)) (some 32) (sv 1)) (some 31) (sv 0))) _) _)
              try simp only [Act.put, sIA, sCS, sCZ]
              simp [go_sem, quietTo, Ext.refl, ↓IntWalk.iteOmega, f2, f11]
              all_goals try simp (disch := omega) only [IntWalk.i64_in]
              all_goals first
                | rfl
            refine fac_quiet 13 rfl rfl rfl (fun _ _ h _ => h) rfl rfl ?_
            apply Exists.intro
            refine ⟨fun sv w' hw' hfa => ?_, ?_⟩
            · obtain ⟨_, _, _, _, _, _, _, _, _, _, _, _, f12, -⟩ := hfa
              replace f12 : sv 12 = _ := f12; (try dsimp only at f12)
              refine ⟨rfl, ?_⟩
              simp only [putsL]
              change quietTo _ _ _ _ (Sem.run _ (execOp (Act.eval (Act.put (Act.put (Act.put (Act.put (Act.put (Act.put (Act.put (Act.put (Act.put (Act.put (Act.put (Act.put (Act.put _ (some 43) (sv 12)) (some 42) (sv 11)) (some 41) (sv 10)) (some 40) (sv 9)) (some 39) (sv 8)) (some 38) (sv 7)) (some 37) (sv 6)) (some 36) (sv 5)) (some 35) (sv 4)) (some 34) (sv 3)) (some 33) (sv 2)) (some 32) (sv 1)) (some 31) (sv 0))) _) _)
              try simp only [Act.put, sIA, sCS, sCZ]
              simp [go_sem, quietTo, Ext.refl, f12]
              all_goals first
                | rfl
            refine fac_nil fun xb wrb herb hfrb hcrb holdb hapb => ?_
            obtain ⟨f0, f1, f2, f3, f4, f5, f6, f7, f8, f9, f10, f11, f12, f13, -⟩ := hfrb
            replace f0 : xb 0 = _ := f0
            (try dsimp only at f0)
            replace f1 : xb 1 = _ := f1
            (try dsimp only at f1)
            replace f2 : xb 2 = _ := f2
            (try dsimp only at f2)
            replace f3 : xb 3 = _ := f3
            (try dsimp only at f3)
            replace f4 : xb 4 = _ := f4
            (try dsimp only at f4)
            replace f5 : xb 5 = _ := f5
            (try dsimp only at f5)
            replace f6 : xb 6 = _ := f6
            (try dsimp only at f6)
            replace f7 : xb 7 = _ := f7
            (try dsimp only at f7)
            replace f8 : xb 8 = _ := f8
            (try dsimp only at f8)
            replace f9 : xb 9 = _ := f9
            (try dsimp only at f9)
            replace f10 : xb 10 = _ := f10
            (try dsimp only at f10)
            replace f11 : xb 11 = _ := f11
            (try dsimp only at f11)
            replace f12 : xb 12 = _ := f12
            (try dsimp only at f12)
            replace f13 : xb 13 = _ := f13
            (try dsimp only at f13)
            change wpList _ _ _ _ (Act.put (Act.put (Act.put (Act.put (Act.put (Act.put (Act.put (Act.put (Act.put (Act.put (Act.put (Act.put (Act.put (Act.put _ (some 31) (xb 0)) (some 32) (xb 1)) (some 33) (xb 2)) (some 34) (xb 3)) (some 35) (xb 4)) (some 36) (xb 5)) (some 37) (xb 6)) (some 38) (xb 7)) (some 39) (xb 8)) (some 40) (xb 9)) (some 41) (xb 10)) (some 42) (xb 11)) (some 43) (xb 12)) (some 30) (xb 13)) _
            simp only [putsL, Nat.reduceAdd, List.drop_succ_cons, List.drop_zero, List.drop_nil, Act.put, sIA, sCS, sCZ]
            try simp only [f0, f1, f2, f3, f4, f5, f6, f7, f8, f9, f10, f11, f12, f13]
            clear f0 f1 f2 f3 f4 f5 f6 f7 f8 f9 f10 f11 f12 f13; clear holdb hapb; clear p2 q2 hb1 hb2 hX hX2 c0 c1 c2 d0
            go_wp2
            first
              | (go_ret
                 exact ⟨ret_int (by rw [hF.out, if_neg h12]; exact scan_is hz hlt (by rw [hv.out, hk1, hk2, hk4, hlb]; simp) (by decide)), he2.trans ((Ext.refl _).drew.trans herb)⟩)
              | (go_roundw
                 case rel => exact ⟨j + 1 + 1, by omega, by go_num, hz.succ (by rw [hv.out, hk1, hk2, hk4, hlb]; simp), he2.trans ((Ext.refl _).drew.trans herb)⟩
                 case measure => simp [intOf]; omega)
      · go_wp2
        go_ret
        exact ⟨ret_int (by rw [hF.out, if_neg h12]; exact (scan_zero (by rw [show n = k by omega]; exact hz)).symm), he⟩
end Go.Proofs.YtdehmioobkneiaaGreatDoor
