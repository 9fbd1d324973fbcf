/- What is wrong with legs, by both texts: the walks. Conditions: sizes. -/
import Derived.Test.YtlmbpgjdepmlcaaDoorWayA
namespace Go.Proofs.YtlmbpgjdepmlcaaDoor
open Go Go.RowKit

set_option maxRecDepth 100000 in
set_option maxHeartbeats 1600000 in
theorem checkLegs_any (p : Option Addr) (n c : Nat) (xs : List LegV) (w : World) (h : Sl 3 legC w p n xs) (hs : ∀ x ∈ xs, x.Small) (hn : n ≤ 1000) :
    Calls Tryd.prog 37 #[.slice p n c] w fun e w' => e = .returned (.int .i64 (legsF xs)) ∧ Ext w w' := by
  have hl := h.1
  have hF : legsF xs = if 400 < n then 2 else scanF n (chkLeg xs) := by unfold legsF; rw [hl]
  replace hF := Lib.hid hF
  by_cases h12 : 400 < n
  · clear h hl hs
    go_enter Tryd.func37, Tryd.ntmps37
    go_wp2
    go_ret
    exact ⟨ret_int (by rw [hF.out, if_pos h12]), Ext.refl _⟩
  by_cases h0 : n = 0
  · subst h0
    clear h hs
    go_enter Tryd.func37, Tryd.ntmps37
    go_wp2
    refine wp_loop_rounds 1 ?_
    rw [rounds_succ]
    go_wp2
    go_ret
    exact ⟨ret_int (by rw [hF.out]; rfl), Ext.refl _⟩
  · obtain ⟨b, off, rfl, hb, hE⟩ := h.2.2 h0
    clear h
    replace hl := Lib.hid hl
    replace h0 := Lib.hid h0
    have hd : decide (400 < (n : Int)) = false := by simp; omega
    go_enter Tryd.func37, Tryd.ntmps37
    go_wp2
    go_loopw [10] (fun i w' => ∃ k : Nat, k ≤ n ∧ i = .int .i64 k ∧ Zeros (chkLeg xs) k ∧ Ext w w') (fun i _ => n - (intOf i).toNat)
    case atStart => exact ⟨0, Nat.zero_le _, rfl, (fun j hj => by omega), Ext.refl _⟩
    case round =>
      obtain ⟨k, hk, rfl, hz, he⟩ := hrel
      have hbw := Nat.lt_of_lt_of_le hb he.size
      by_cases hlt : k < n
      · obtain ⟨x, hx⟩ := getD_some hl.out hlt
        obtain ⟨s1, s2, s3, s4⟩ := hs x (List.mem_of_getElem? hx)
        obtain ⟨c0, c1, c2⟩ := (hE.ext he hb).leg hx
        have hv : chkLeg xs k = if keyB x.fr && keyB x.to then (if x.fr.toList == x.to.toList then 3 else if inB x.m 1 100000000 then (if 0 < k && decide (0 ≤ legC_ (atL default xs (k - 1)) x) then 7 else 0) else 1) else 5 := by
          unfold chkLeg; rw [atL_of hx]
        have hprev : ∀ j y, k = j + 1 → xs[j]? = some y → (∀ i, i < y.fr.size + 1 → True) ∧ wr.cell? ⟨b, off + j * 3, none⟩ = some (.string y.fr) ∧ wr.cell? ⟨b, off + j * 3 + 1, none⟩ = some (.string y.to) := fun j y _ hy => ⟨fun _ _ => trivial, ((hE.ext he hb).leg hy).1, ((hE.ext he hb).leg hy).2.1⟩
        replace hx := Lib.hid hx
        replace hv := Lib.hid hv
        replace hprev := Lib.hid hprev
        have hX := Blk.new' (w := wr) (t := 37) (cs := #[.string x.fr, .string x.to, .int .i64 x.m]) rfl
        replace hX := Lib.hid hX
        replace hs := Lib.hid hs
        cases hk1 : keyB x.fr
        · go_wp2_with (go_at_call 38; (with_reducible refine Calls.mono (isKey_is hk1 (by omega) _) ?_); rintro e w1 ⟨rfl, hb1⟩; obtain ⟨p1, q1⟩ := (hX.out.ext hb1).walk; have lt1 := (hX.out.ext hb1).lt)
          go_ret
          exact ⟨ret_int (by rw [hF.out, if_neg h12]; exact scan_is hz hlt (by rw [hv.out, hk1]; rfl) (by decide)), (he.alloc _).trans hb1⟩
        cases hk2 : keyB x.to
        · go_wp2_with (first
            | (go_at_call 38; (with_reducible refine Calls.mono (isKey_is hk1 (by omega) _) ?_); rintro e w1 ⟨rfl, hb1⟩; obtain ⟨p1, q1⟩ := (hX.out.ext hb1).walk; have lt1 := (hX.out.ext hb1).lt)
            | (go_at_call 38; (with_reducible refine Calls.mono (isKey_is hk2 (by omega) _) ?_); rintro e w2 ⟨rfl, hb2⟩; clear p1 q1; obtain ⟨p2, q2⟩ := ((hX.out.ext hb1).ext hb2).walk; have lt2 := ((hX.out.ext hb1).ext hb2).lt))
          go_ret
          exact ⟨ret_int (by rw [hF.out, if_neg h12]; exact scan_is hz hlt (by rw [hv.out, hk1, hk2]; rfl) (by decide)), ((he.alloc _).trans hb1).trans hb2⟩
        cases hk3 : (x.fr.toList == x.to.toList)
        case true =>
          go_wp2_with (first
            | (go_at_call 38; (with_reducible refine Calls.mono (isKey_is hk1 (by omega) _) ?_); rintro e w1 ⟨rfl, hb1⟩; obtain ⟨p1, q1⟩ := (hX.out.ext hb1).walk; have lt1 := (hX.out.ext hb1).lt)
            | (go_at_call 38; (with_reducible refine Calls.mono (isKey_is hk2 (by omega) _) ?_); rintro e w2 ⟨rfl, hb2⟩; clear p1 q1; obtain ⟨p2, q2⟩ := ((hX.out.ext hb1).ext hb2).walk; have lt2 := ((hX.out.ext hb1).ext hb2).lt))
          go_ret
          exact ⟨ret_int (by rw [hF.out, if_neg h12]; exact scan_is hz hlt (by rw [hv.out, hk1, hk2, hk3]; rfl) (by decide)), ((he.alloc _).trans hb1).trans hb2⟩
        cases hk4 : inB x.m 1 100000000
        · have hk4' : outB x.m 1 100000000 = true := by rw [outB_inB, hk4]; rfl
          go_wp2_with (first
            | (go_at_call 38; (with_reducible refine Calls.mono (isKey_is hk1 (by omega) _) ?_); rintro e w1 ⟨rfl, hb1⟩; obtain ⟨p1, q1⟩ := (hX.out.ext hb1).walk; have lt1 := (hX.out.ext hb1).lt)
            | (go_at_call 38; (with_reducible refine Calls.mono (isKey_is hk2 (by omega) _) ?_); rintro e w2 ⟨rfl, hb2⟩; clear p1 q1; obtain ⟨p2, q2⟩ := ((hX.out.ext hb1).ext hb2).walk; have lt2 := ((hX.out.ext hb1).ext hb2).lt)
            | (go_at_call 43; (with_reducible refine Calls.mono (outside_any _ _ _ _) ?_); rintro e w4 ⟨rfl, rfl⟩))
          go_ret
          exact ⟨ret_int (by rw [hF.out, if_neg h12]; exact scan_is hz hlt (by rw [hv.out, hk1, hk2, hk3, hk4]; rfl) (by decide)), ((he.alloc _).trans hb1).trans hb2⟩
        have hk4' : outB x.m 1 100000000 = false := by rw [outB_inB, hk4]; rfl
        go_upto_region 12 with (first
            | (go_at_call 38; (with_reducible refine Calls.mono (isKey_is hk1 (by omega) _) ?_); rintro e w1 ⟨rfl, hb1⟩; obtain ⟨p1, q1⟩ := (hX.out.ext hb1).walk; have lt1 := (hX.out.ext hb1).lt)
            | (go_at_call 38; (with_reducible refine Calls.mono (isKey_is hk2 (by omega) _) ?_); rintro e w2 ⟨rfl, hb2⟩; clear p1 q1; obtain ⟨p2, q2⟩ := ((hX.out.ext hb1).ext hb2).walk; have lt2 := ((hX.out.ext hb1).ext hb2).lt)
            | (go_at_call 43; (with_reducible refine Calls.mono (outside_any _ _ _ _) ?_); rintro e w4 ⟨rfl, rfl⟩))
        have hX2 := (hX.out.ext hb1).ext hb2
        have he2 : Ext w w2 := ((he.alloc _).trans hb1).trans hb2
        have hbk : Ext wr w2 := (((Ext.refl wr).alloc _).trans hb1).trans hb2
        rcases Nat.eq_zero_or_pos k with hk0 | hk0
        · subst hk0
          have hz0 : ((0 : Nat) : Int) = 0 := rfl
          refine wp_region_facts [] [([], false, false), ([0], false, false), ([0, 1], false, false), ([0, 1, 2], false, false), ([0, 1, 2], false, false), ([0, 1, 2, 4], false, false), ([0, 1, 2, 3, 4, 5], false, false), ([0, 1, 2, 3, 4, 5, 6], false, false), ([0, 1, 2, 3, 4, 5, 6, 7], false, false), ([0, 1, 2], false, false), ([0, 1, 2, 9], false, false), ([0, 1, 2, 3, 4, 5, 6, 7, 8, 9, 10], false, false), ([0, 1, 2], false, false), ([0, 1, 2], false, false), ([0, 1, 2, 13], false, false), ([0, 1, 2, 12, 13, 14], false, false), ([0, 1, 2, 12, 13, 14, 15], false, false), ([0, 1, 2, 12, 13, 14, 15, 16], false, false), ([0, 1, 2], false, false), ([0, 1, 2, 18], false, false), ([0, 1, 2, 12, 13, 14, 15, 16, 17, 18, 19], false, false), ([0, 1, 2, 3, 4, 5, 6, 7, 8, 9, 10, 11, 12, 13, 14, 15, 16, 17, 18, 19, 20], false, false), ([0, 1, 2, 3, 4, 5, 6, 7, 8, 9, 10, 11, 12, 13, 14, 15, 16, 17, 18, 19, 20, 21], false, false), ([0, 1, 2, 3, 4, 5, 6, 7, 8, 9, 10, 11, 12, 13, 14, 15, 16, 17, 18, 19, 20, 21, 22], false, false), ([0, 1, 2, 3, 4, 5, 6, 7, 8, 9, 10, 11, 12, 13, 14, 15, 16, 17, 18, 19, 20, 21, 22, 23], false, false), ([0, 1, 2, 3, 4, 5, 6, 7, 8, 9, 10, 11, 12, 13, 14, 15, 16, 17, 18, 19, 20, 21, 22, 23, 24], false, false)] (Ext) Ext (fun _ => True) (by kernel_rfl) (by kernel_rfl) Ext.refl (fun _ _ _ => Ext.trans) (fun _ _ h => h) (fun _ _ h => h.size) (fun _ _ h _ => h) trivial ?_
          dsimp only [List.length_cons, List.length_nil, List.drop_succ_cons, List.drop_zero, List.drop_nil]
          refine fac_quiet 0 rfl rfl rfl (fun _ _ h _ => h) rfl rfl ?_
          apply Exists.intro
          refine ⟨fun sv w' hw' hfa => ?_, ?_⟩
          · skip
            refine ⟨rfl, ?_⟩
            simp only [putsL]
            change quietTo _ _ _ _ (Sem.run _ (execOp (Act.eval _) _) _)
            try simp only [Act.put, List.setIfInBounds_toArray, List.set_cons_succ, List.set_cons_zero]
            simp [go_sem, quietTo, Ext.refl]
            all_goals try simp (disch := omega) only [IntWalk.i64_in]
            all_goals first
              | rfl
          refine fac_quiet 1 rfl rfl rfl (fun _ _ h _ => h) rfl rfl ?_
          apply Exists.intro
          refine ⟨fun sv w' hw' hfa => ?_, ?_⟩
          · obtain ⟨f0, -⟩ := hfa
            replace f0 : sv 0 = _ := f0
            try dsimp only at f0
            skip
            refine ⟨rfl, ?_⟩
            simp only [putsL]
            change quietTo _ _ _ _ (Sem.run _ (execOp (Act.eval (Act.put _ (some 37) (sv 0))) _) _)
            try simp only [Act.put, List.setIfInBounds_toArray, List.set_cons_succ, List.set_cons_zero]
            simp [go_sem, quietTo, Ext.refl, ↓IntWalk.iteOmega, f0, hz0]
            all_goals try simp (disch := omega) only [IntWalk.i64_in]
            all_goals first
              | rfl
          refine fac_quiet 2 rfl rfl rfl (fun _ _ h _ => h) rfl rfl ?_
          apply Exists.intro
          refine ⟨fun sv w' hw' hfa => ?_, ?_⟩
          · obtain ⟨f0, f1, -⟩ := hfa
            replace f0 : sv 0 = _ := f0
            try dsimp only at f0
            replace f1 : sv 1 = _ := f1
            try dsimp only at f1
            skip
            refine ⟨rfl, ?_⟩
            simp only [putsL]
            change quietTo _ _ _ _ (Sem.run _ (execOp (Act.eval (Act.put (Act.put _ (some 38) (sv 1)) (some 37) (sv 0))) _) _)
            try simp only [Act.put, List.setIfInBounds_toArray, List.set_cons_succ, List.set_cons_zero]
            simp [go_sem, quietTo, Ext.refl, f1]
            all_goals try simp (disch := omega) only [IntWalk.i64_in]
            all_goals first
              | rfl
          refine fac_skip 3 rfl rfl rfl (fun _ _ h _ => h) Ext.refl ?_ ?_
          · intro sv w' hw' hfa
            obtain ⟨f0, f1, f2, -⟩ := hfa
            replace f0 : sv 0 = _ := f0
            try dsimp only at f0
            replace f1 : sv 1 = _ := f1
            try dsimp only at f1
            replace f2 : sv 2 = _ := f2
            try dsimp only at f2
            simp [Region.wanted, yielded, putsL, Act.put, f2]
          refine fac_skip 4 rfl rfl rfl (fun _ _ h _ => h) Ext.refl ?_ ?_
          · intro sv w' hw' hfa
            obtain ⟨f0, f1, f2, -⟩ := hfa
            replace f0 : sv 0 = _ := f0
            try dsimp only at f0
            replace f1 : sv 1 = _ := f1
            try dsimp only at f1
            replace f2 : sv 2 = _ := f2
            try dsimp only at f2
            simp [Region.wanted, yielded, putsL, Act.put, f2]
          refine fac_skip 5 rfl rfl rfl (fun _ _ h _ => h) Ext.refl ?_ ?_
          · intro sv w' hw' hfa
            obtain ⟨f0, f1, f2, f4, -⟩ := hfa
            replace f0 : sv 0 = _ := f0
            try dsimp only at f0
            replace f1 : sv 1 = _ := f1
            try dsimp only at f1
            replace f2 : sv 2 = _ := f2
            try dsimp only at f2
            replace f4 : sv 4 = _ := f4
            try dsimp only at f4
            simp [Region.wanted, yielded, putsL, Act.put, f2, f4]
          refine fac_skip 6 rfl rfl rfl (fun _ _ h _ => h) Ext.refl ?_ ?_
          · intro sv w' hw' hfa
            obtain ⟨f0, f1, f2, f3, f4, f5, -⟩ := hfa
            replace f0 : sv 0 = _ := f0
            try dsimp only at f0
            replace f1 : sv 1 = _ := f1
            try dsimp only at f1
            replace f2 : sv 2 = _ := f2
            try dsimp only at f2
            replace f3 : sv 3 = _ := f3
            try dsimp only at f3
            replace f4 : sv 4 = _ := f4
            try dsimp only at f4
            replace f5 : sv 5 = _ := f5
            try dsimp only at f5
            simp [Region.wanted, yielded, putsL, Act.put, f2, f3, f5]
          refine fac_skip 7 rfl rfl rfl (fun _ _ h _ => h) Ext.refl ?_ ?_
          · intro sv w' hw' hfa
            obtain ⟨f0, f1, f2, f3, f4, f5, f6, -⟩ := hfa
            replace f0 : sv 0 = _ := f0
            try dsimp only at f0
            replace f1 : sv 1 = _ := f1
            try dsimp only at f1
            replace f2 : sv 2 = _ := f2
            try dsimp only at f2
            replace f3 : sv 3 = _ := f3
            try dsimp only at f3
            replace f4 : sv 4 = _ := f4
            try dsimp only at f4
            replace f5 : sv 5 = _ := f5
            try dsimp only at f5
            replace f6 : sv 6 = _ := f6
            try dsimp only at f6
            simp [Region.wanted, yielded, putsL, Act.put, f2, f6]
          refine fac_skip 8 rfl rfl rfl (fun _ _ h _ => h) Ext.refl ?_ ?_
          · intro sv w' hw' hfa
            obtain ⟨f0, f1, f2, f3, f4, f5, f6, f7, -⟩ := hfa
            replace f0 : sv 0 = _ := f0
            try dsimp only at f0
            replace f1 : sv 1 = _ := f1
            try dsimp only at f1
            replace f2 : sv 2 = _ := f2
            try dsimp only at f2
            replace f3 : sv 3 = _ := f3
            try dsimp only at f3
            replace f4 : sv 4 = _ := f4
            try dsimp only at f4
            replace f5 : sv 5 = _ := f5
            try dsimp only at f5
            replace f6 : sv 6 = _ := f6
            try dsimp only at f6
            replace f7 : sv 7 = _ := f7
            try dsimp only at f7
            simp [Region.wanted, yielded, putsL, Act.put, f2, f7]
          refine fac_skip 9 rfl rfl rfl (fun _ _ h _ => h) Ext.refl ?_ ?_
          · intro sv w' hw' hfa
            obtain ⟨f0, f1, f2, -⟩ := hfa
            replace f0 : sv 0 = _ := f0
            try dsimp only at f0
            replace f1 : sv 1 = _ := f1
            try dsimp only at f1
            replace f2 : sv 2 = _ := f2
            try dsimp only at f2
            simp [Region.wanted, yielded, putsL, Act.put, f2]
          refine fac_skip 10 rfl rfl rfl (fun _ _ h _ => h) Ext.refl ?_ ?_
          · intro sv w' hw' hfa
            obtain ⟨f0, f1, f2, f9, -⟩ := hfa
            replace f0 : sv 0 = _ := f0
            try dsimp only at f0
            replace f1 : sv 1 = _ := f1
            try dsimp only at f1
            replace f2 : sv 2 = _ := f2
            try dsimp only at f2
            replace f9 : sv 9 = _ := f9
            try dsimp only at f9
            simp [Region.wanted, yielded, putsL, Act.put, f2, f9]
          refine fac_skip 11 rfl rfl rfl (fun _ _ h _ => h) Ext.refl ?_ ?_
          · intro sv w' hw' hfa
            obtain ⟨f0, f1, f2, f3, f4, f5, f6, f7, f8, f9, f10, -⟩ := hfa
            replace f0 : sv 0 = _ := f0
            try dsimp only at f0
            replace f1 : sv 1 = _ := f1
            try dsimp only at f1
            replace f2 : sv 2 = _ := f2
            try dsimp only at f2
            replace f3 : sv 3 = _ := f3
            try dsimp only at f3
            replace f4 : sv 4 = _ := f4
            try dsimp only at f4
            replace f5 : sv 5 = _ := f5
            try dsimp only at f5
            replace f6 : sv 6 = _ := f6
            try dsimp only at f6
            replace f7 : sv 7 = _ := f7
            try dsimp only at f7
            replace f8 : sv 8 = _ := f8
            try dsimp only at f8
            replace f9 : sv 9 = _ := f9
            try dsimp only at f9
            replace f10 : sv 10 = _ := f10
            try dsimp only at f10
            simp [Region.wanted, yielded, putsL, Act.put, f2, f8, f10]
          refine fac_skip 12 rfl rfl rfl (fun _ _ h _ => h) Ext.refl ?_ ?_
          · intro sv w' hw' hfa
            obtain ⟨f0, f1, f2, -⟩ := hfa
            replace f0 : sv 0 = _ := f0
            try dsimp only at f0
            replace f1 : sv 1 = _ := f1
            try dsimp only at f1
            replace f2 : sv 2 = _ := f2
            try dsimp only at f2
            simp [Region.wanted, yielded, putsL, Act.put, f2]
          refine fac_skip 13 rfl rfl rfl (fun _ _ h _ => h) Ext.refl ?_ ?_
          · intro sv w' hw' hfa
            obtain ⟨f0, f1, f2, -⟩ := hfa
            replace f0 : sv 0 = _ := f0
            try dsimp only at f0
            replace f1 : sv 1 = _ := f1
            try dsimp only at f1
            replace f2 : sv 2 = _ := f2
            try dsimp only at f2
            simp [Region.wanted, yielded, putsL, Act.put, f2]
          refine fac_skip 14 rfl rfl rfl (fun _ _ h _ => h) Ext.refl ?_ ?_
          · intro sv w' hw' hfa
            obtain ⟨f0, f1, f2, f13, -⟩ := hfa
            replace f0 : sv 0 = _ := f0
            try dsimp only at f0
            replace f1 : sv 1 = _ := f1
            try dsimp only at f1
            replace f2 : sv 2 = _ := f2
            try dsimp only at f2
            replace f13 : sv 13 = _ := f13
            try dsimp only at f13
            simp [Region.wanted, yielded, putsL, Act.put, f2, f13]
          refine fac_skip 15 rfl rfl rfl (fun _ _ h _ => h) Ext.refl ?_ ?_
          · intro sv w' hw' hfa
            obtain ⟨f0, f1, f2, f12, f13, f14, -⟩ := hfa
            replace f0 : sv 0 = _ := f0
            try dsimp only at f0
            replace f1 : sv 1 = _ := f1
            try dsimp only at f1
            replace f2 : sv 2 = _ := f2
            try dsimp only at f2
            replace f12 : sv 12 = _ := f12
            try dsimp only at f12
            replace f13 : sv 13 = _ := f13
            try dsimp only at f13
            replace f14 : sv 14 = _ := f14
            try dsimp only at f14
            simp [Region.wanted, yielded, putsL, Act.put, f2, f12, f14]
          refine fac_skip 16 rfl rfl rfl (fun _ _ h _ => h) Ext.refl ?_ ?_
          · intro sv w' hw' hfa
            obtain ⟨f0, f1, f2, f12, f13, f14, f15, -⟩ := hfa
            replace f0 : sv 0 = _ := f0
            try dsimp only at f0
            replace f1 : sv 1 = _ := f1
            try dsimp only at f1
            replace f2 : sv 2 = _ := f2
            try dsimp only at f2
            replace f12 : sv 12 = _ := f12
            try dsimp only at f12
            replace f13 : sv 13 = _ := f13
            try dsimp only at f13
            replace f14 : sv 14 = _ := f14
            try dsimp only at f14
            replace f15 : sv 15 = _ := f15
            try dsimp only at f15
            simp [Region.wanted, yielded, putsL, Act.put, f2, f15]
          refine fac_skip 17 rfl rfl rfl (fun _ _ h _ => h) Ext.refl ?_ ?_
          · intro sv w' hw' hfa
            obtain ⟨f0, f1, f2, f12, f13, f14, f15, f16, -⟩ := hfa
            replace f0 : sv 0 = _ := f0
            try dsimp only at f0
            replace f1 : sv 1 = _ := f1
            try dsimp only at f1
            replace f2 : sv 2 = _ := f2
            try dsimp only at f2
            replace f12 : sv 12 = _ := f12
            try dsimp only at f12
            replace f13 : sv 13 = _ := f13
            try dsimp only at f13
            replace f14 : sv 14 = _ := f14
            try dsimp only at f14
            replace f15 : sv 15 = _ := f15
            try dsimp only at f15
            replace f16 : sv 16 = _ := f16
            try dsimp only at f16
            simp [Region.wanted, yielded, putsL, Act.put, f2, f16]
          refine fac_skip 18 rfl rfl rfl (fun _ _ h _ => h) Ext.refl ?_ ?_
          · intro sv w' hw' hfa
            obtain ⟨f0, f1, f2, -⟩ := hfa
            replace f0 : sv 0 = _ := f0
            try dsimp only at f0
            replace f1 : sv 1 = _ := f1
            try dsimp only at f1
            replace f2 : sv 2 = _ := f2
            try dsimp only at f2
            simp [Region.wanted, yielded, putsL, Act.put, f2]
          refine fac_skip 19 rfl rfl rfl (fun _ _ h _ => h) Ext.refl ?_ ?_
          · intro sv w' hw' hfa
            obtain ⟨f0, f1, f2, f18, -⟩ := hfa
            replace f0 : sv 0 = _ := f0
            try dsimp only at f0
            replace f1 : sv 1 = _ := f1
            try dsimp only at f1
            replace f2 : sv 2 = _ := f2
            try dsimp only at f2
            replace f18 : sv 18 = _ := f18
            try dsimp only at f18
            simp [Region.wanted, yielded, putsL, Act.put, f2, f18]
          refine fac_skip 20 rfl rfl rfl (fun _ _ h _ => h) Ext.refl ?_ ?_
          · intro sv w' hw' hfa
            obtain ⟨f0, f1, f2, f12, f13, f14, f15, f16, f17, f18, f19, -⟩ := hfa
            replace f0 : sv 0 = _ := f0
            try dsimp only at f0
            replace f1 : sv 1 = _ := f1
            try dsimp only at f1
            replace f2 : sv 2 = _ := f2
            try dsimp only at f2
            replace f12 : sv 12 = _ := f12
            try dsimp only at f12
            replace f13 : sv 13 = _ := f13
            try dsimp only at f13
            replace f14 : sv 14 = _ := f14
            try dsimp only at f14
            replace f15 : sv 15 = _ := f15
            try dsimp only at f15
            replace f16 : sv 16 = _ := f16
            try dsimp only at f16
            replace f17 : sv 17 = _ := f17
            try dsimp only at f17
            replace f18 : sv 18 = _ := f18
            try dsimp only at f18
            replace f19 : sv 19 = _ := f19
            try dsimp only at f19
            simp [Region.wanted, yielded, putsL, Act.put, f2, f17, f19]
          refine fac_skip 21 rfl rfl rfl (fun _ _ h _ => h) Ext.refl ?_ ?_
          · intro sv w' hw' hfa
            obtain ⟨f0, f1, f2, f3, f4, f5, f6, f7, f8, f9, f10, f11, f12, f13, f14, f15, f16, f17, f18, f19, f20, -⟩ := hfa
            replace f0 : sv 0 = _ := f0
            try dsimp only at f0
            replace f1 : sv 1 = _ := f1
            try dsimp only at f1
            replace f2 : sv 2 = _ := f2
            try dsimp only at f2
            replace f3 : sv 3 = _ := f3
            try dsimp only at f3
            replace f4 : sv 4 = _ := f4
            try dsimp only at f4
            replace f5 : sv 5 = _ := f5
            try dsimp only at f5
            replace f6 : sv 6 = _ := f6
            try dsimp only at f6
            replace f7 : sv 7 = _ := f7
            try dsimp only at f7
            replace f8 : sv 8 = _ := f8
            try dsimp only at f8
            replace f9 : sv 9 = _ := f9
            try dsimp only at f9
            replace f10 : sv 10 = _ := f10
            try dsimp only at f10
            replace f11 : sv 11 = _ := f11
            try dsimp only at f11
            replace f12 : sv 12 = _ := f12
            try dsimp only at f12
            replace f13 : sv 13 = _ := f13
            try dsimp only at f13
            replace f14 : sv 14 = _ := f14
            try dsimp only at f14
            replace f15 : sv 15 = _ := f15
            try dsimp only at f15
            replace f16 : sv 16 = _ := f16
            try dsimp only at f16
            replace f17 : sv 17 = _ := f17
            try dsimp only at f17
            replace f18 : sv 18 = _ := f18
            try dsimp only at f18
            replace f19 : sv 19 = _ := f19
            try dsimp only at f19
            replace f20 : sv 20 = _ := f20
            try dsimp only at f20
            simp [Region.wanted, yielded, putsL, Act.put, f2, f11, f20]
          refine fac_skip 22 rfl rfl rfl (fun _ _ h _ => h) Ext.refl ?_ ?_
          · intro sv w' hw' hfa
            obtain ⟨f0, f1, f2, f3, f4, f5, f6, f7, f8, f9, f10, f11, f12, f13, f14, f15, f16, f17, f18, f19, f20, f21, -⟩ := hfa
            replace f0 : sv 0 = _ := f0
            try dsimp only at f0
            replace f1 : sv 1 = _ := f1
            try dsimp only at f1
            replace f2 : sv 2 = _ := f2
            try dsimp only at f2
            replace f3 : sv 3 = _ := f3
            try dsimp only at f3
            replace f4 : sv 4 = _ := f4
            try dsimp only at f4
            replace f5 : sv 5 = _ := f5
            try dsimp only at f5
            replace f6 : sv 6 = _ := f6
            try dsimp only at f6
            replace f7 : sv 7 = _ := f7
            try dsimp only at f7
            replace f8 : sv 8 = _ := f8
            try dsimp only at f8
            replace f9 : sv 9 = _ := f9
            try dsimp only at f9
            replace f10 : sv 10 = _ := f10
            try dsimp only at f10
            replace f11 : sv 11 = _ := f11
            try dsimp only at f11
            replace f12 : sv 12 = _ := f12
            try dsimp only at f12
            replace f13 : sv 13 = _ := f13
            try dsimp only at f13
            replace f14 : sv 14 = _ := f14
            try dsimp only at f14
            replace f15 : sv 15 = _ := f15
            try dsimp only at f15
            replace f16 : sv 16 = _ := f16
            try dsimp only at f16
            replace f17 : sv 17 = _ := f17
            try dsimp only at f17
            replace f18 : sv 18 = _ := f18
            try dsimp only at f18
            replace f19 : sv 19 = _ := f19
            try dsimp only at f19
            replace f20 : sv 20 = _ := f20
            try dsimp only at f20
            replace f21 : sv 21 = _ := f21
            try dsimp only at f21
            simp [Region.wanted, yielded, putsL, Act.put, f2, f21]
          refine fac_skip 23 rfl rfl rfl (fun _ _ h _ => h) Ext.refl ?_ ?_
          · intro sv w' hw' hfa
            obtain ⟨f0, f1, f2, f3, f4, f5, f6, f7, f8, f9, f10, f11, f12, f13, f14, f15, f16, f17, f18, f19, f20, f21, f22, -⟩ := hfa
            replace f0 : sv 0 = _ := f0
            try dsimp only at f0
            replace f1 : sv 1 = _ := f1
            try dsimp only at f1
            replace f2 : sv 2 = _ := f2
            try dsimp only at f2
            replace f3 : sv 3 = _ := f3
            try dsimp only at f3
            replace f4 : sv 4 = _ := f4
            try dsimp only at f4
            replace f5 : sv 5 = _ := f5
            try dsimp only at f5
            replace f6 : sv 6 = _ := f6
            try dsimp only at f6
            replace f7 : sv 7 = _ := f7
            try dsimp only at f7
            replace f8 : sv 8 = _ := f8
            try dsimp only at f8
            replace f9 : sv 9 = _ := f9
            try dsimp only at f9
            replace f10 : sv 10 = _ := f10
            try dsimp only at f10
            replace f11 : sv 11 = _ := f11
            try dsimp only at f11
            replace f12 : sv 12 = _ := f12
            try dsimp only at f12
            replace f13 : sv 13 = _ := f13
            try dsimp only at f13
            replace f14 : sv 14 = _ := f14
            try dsimp only at f14
            replace f15 : sv 15 = _ := f15
            try dsimp only at f15
            replace f16 : sv 16 = _ := f16
            try dsimp only at f16
            replace f17 : sv 17 = _ := f17
            try dsimp only at f17
            replace f18 : sv 18 = _ := f18
            try dsimp only at f18
            replace f19 : sv 19 = _ := f19
            try dsimp only at f19
            replace f20 : sv 20 = _ := f20
            try dsimp only at f20
            replace f21 : sv 21 = _ := f21
            try dsimp only at f21
            replace f22 : sv 22 = _ := f22
            try dsimp only at f22
            simp [Region.wanted, yielded, putsL, Act.put, f2, f22]
          refine fac_quiet 24 rfl rfl rfl (fun _ _ h _ => h) rfl rfl ?_
          apply Exists.intro
          refine ⟨fun sv w' hw' hfa => ?_, ?_⟩
          · obtain ⟨f0, f1, f2, f3, f4, f5, f6, f7, f8, f9, f10, f11, f12, f13, f14, f15, f16, f17, f18, f19, f20, f21, f22, f23, -⟩ := hfa
            replace f0 : sv 0 = _ := f0
            try dsimp only at f0
            replace f1 : sv 1 = _ := f1
            try dsimp only at f1
            replace f2 : sv 2 = _ := f2
            try dsimp only at f2
            replace f3 : sv 3 = _ := f3
            try dsimp only at f3
            replace f4 : sv 4 = _ := f4
            try dsimp only at f4
            replace f5 : sv 5 = _ := f5
            try dsimp only at f5
            replace f6 : sv 6 = _ := f6
            try dsimp only at f6
            replace f7 : sv 7 = _ := f7
            try dsimp only at f7
            replace f8 : sv 8 = _ := f8
            try dsimp only at f8
            replace f9 : sv 9 = _ := f9
            try dsimp only at f9
            replace f10 : sv 10 = _ := f10
            try dsimp only at f10
            replace f11 : sv 11 = _ := f11
            try dsimp only at f11
            replace f12 : sv 12 = _ := f12
            try dsimp only at f12
            replace f13 : sv 13 = _ := f13
            try dsimp only at f13
            replace f14 : sv 14 = _ := f14
            try dsimp only at f14
            replace f15 : sv 15 = _ := f15
            try dsimp only at f15
            replace f16 : sv 16 = _ := f16
            try dsimp only at f16
            replace f17 : sv 17 = _ := f17
            try dsimp only at f17
            replace f18 : sv 18 = _ := f18
            try dsimp only at f18
            replace f19 : sv 19 = _ := f19
            try dsimp only at f19
            replace f20 : sv 20 = _ := f20
            try dsimp only at f20
            replace f21 : sv 21 = _ := f21
            try dsimp only at f21
            replace f22 : sv 22 = _ := f22
            try dsimp only at f22
            replace f23 : sv 23 = _ := f23
            try dsimp only at f23
            skip
            refine ⟨rfl, ?_⟩
            simp only [putsL]
            change quietTo _ _ _ _ (Sem.run _ (execOp (Act.eval (Act.put (Act.put (Act.put (Act.put (Act.put (Act.put (Act.put (Act.put (Act.put (Act.put (Act.put (Act.put (Act.put (Act.put (Act.put (Act.put (Act.put (Act.put (Act.put (Act.put (Act.put (Act.put (Act.put (Act.put _ (some 60) (sv 23)) (some 59) (sv 22)) (some 58) (sv 21)) (some 57) (sv 20)) (some 56) (sv 19)) (some 55) (sv 18)) (some 54) (sv 17)) (some 53) (sv 16)) (some 52) (sv 15)) (some 51) (sv 14)) (some 50) (sv 13)) (some 49) (sv 12)) (some 48) (sv 11)) (some 47) (sv 10)) (some 46) (sv 9)) (some 45) (sv 8)) (some 44) (sv 7)) (some 43) (sv 6)) (some 42) (sv 5)) (some 41) (sv 4)) (some 40) (sv 3)) (some 39) (sv 2)) (some 38) (sv 1)) (some 37) (sv 0))) _) _)
            try simp only [Act.put, List.setIfInBounds_toArray, List.set_cons_succ, List.set_cons_zero]
            simp [go_sem, quietTo, Ext.refl, ↓IntWalk.iteOmega, f2, f23, hz0]
            all_goals try simp (disch := omega) only [IntWalk.i64_in]
            all_goals first
              | rfl
          refine fac_quiet 25 rfl rfl rfl (fun _ _ h _ => h) rfl rfl ?_
          apply Exists.intro
          refine ⟨fun sv w' hw' hfa => ?_, ?_⟩
          · obtain ⟨f0, f1, f2, f3, f4, f5, f6, f7, f8, f9, f10, f11, f12, f13, f14, f15, f16, f17, f18, f19, f20, f21, f22, f23, f24, -⟩ := hfa
            replace f0 : sv 0 = _ := f0
            try dsimp only at f0
            replace f1 : sv 1 = _ := f1
            try dsimp only at f1
            replace f2 : sv 2 = _ := f2
            try dsimp only at f2
            replace f3 : sv 3 = _ := f3
            try dsimp only at f3
            replace f4 : sv 4 = _ := f4
            try dsimp only at f4
            replace f5 : sv 5 = _ := f5
            try dsimp only at f5
            replace f6 : sv 6 = _ := f6
            try dsimp only at f6
            replace f7 : sv 7 = _ := f7
            try dsimp only at f7
            replace f8 : sv 8 = _ := f8
            try dsimp only at f8
            replace f9 : sv 9 = _ := f9
            try dsimp only at f9
            replace f10 : sv 10 = _ := f10
            try dsimp only at f10
            replace f11 : sv 11 = _ := f11
            try dsimp only at f11
            replace f12 : sv 12 = _ := f12
            try dsimp only at f12
            replace f13 : sv 13 = _ := f13
            try dsimp only at f13
            replace f14 : sv 14 = _ := f14
            try dsimp only at f14
            replace f15 : sv 15 = _ := f15
            try dsimp only at f15
            replace f16 : sv 16 = _ := f16
            try dsimp only at f16
            replace f17 : sv 17 = _ := f17
            try dsimp only at f17
            replace f18 : sv 18 = _ := f18
            try dsimp only at f18
            replace f19 : sv 19 = _ := f19
            try dsimp only at f19
            replace f20 : sv 20 = _ := f20
            try dsimp only at f20
            replace f21 : sv 21 = _ := f21
            try dsimp only at f21
            replace f22 : sv 22 = _ := f22
            try dsimp only at f22
            replace f23 : sv 23 = _ := f23
            try dsimp only at f23
            replace f24 : sv 24 = _ := f24
            try dsimp only at f24
            skip
            refine ⟨rfl, ?_⟩
            simp only [putsL]
            change quietTo _ _ _ _ (Sem.run _ (execOp (Act.eval (Act.put (Act.put (Act.put (Act.put (Act.put (Act.put (Act.put (Act.put (Act.put (Act.put (Act.put (Act.put (Act.put (Act.put (Act.put (Act.put (Act.put (Act.put (Act.put (Act.put (Act.put (Act.put (Act.put (Act.put (Act.put _ (some 61) (sv 24)) (some 60) (sv 23)) (some 59) (sv 22)) (some 58) (sv 21)) (some 57) (sv 20)) (some 56) (sv 19)) (some 55) (sv 18)) (some 54) (sv 17)) (some 53) (sv 16)) (some 52) (sv 15)) (some 51) (sv 14)) (some 50) (sv 13)) (some 49) (sv 12)) (some 48) (sv 11)) (some 47) (sv 10)) (some 46) (sv 9)) (some 45) (sv 8)) (some 44) (sv 7)) (some 43) (sv 6)) (some 42) (sv 5)) (some 41) (sv 4)) (some 40) (sv 3)) (some 39) (sv 2)) (some 38) (sv 1)) (some 37) (sv 0))) _) _)
            try simp only [Act.put, List.setIfInBounds_toArray, List.set_cons_succ, List.set_cons_zero]
            simp [go_sem, quietTo, Ext.refl, f24]
            all_goals try simp (disch := omega) only [IntWalk.i64_in]
            all_goals first
              | rfl
          refine fac_nil fun xa wra hera hfra hcra holda hapa => ?_
          obtain ⟨f0, f1, f2, f3, f4, f5, f6, f7, f8, f9, f10, f11, f12, f13, f14, f15, f16, f17, f18, f19, f20, f21, f22, f23, f24, f25, -⟩ := hfra
          replace f0 : xa 0 = _ := f0
          try dsimp only at f0
          replace f1 : xa 1 = _ := f1
          try dsimp only at f1
          replace f2 : xa 2 = _ := f2
          try dsimp only at f2
          replace f3 : xa 3 = _ := f3
          try dsimp only at f3
          replace f4 : xa 4 = _ := f4
          try dsimp only at f4
          replace f5 : xa 5 = _ := f5
          try dsimp only at f5
          replace f6 : xa 6 = _ := f6
          try dsimp only at f6
          replace f7 : xa 7 = _ := f7
          try dsimp only at f7
          replace f8 : xa 8 = _ := f8
          try dsimp only at f8
          replace f9 : xa 9 = _ := f9
          try dsimp only at f9
          replace f10 : xa 10 = _ := f10
          try dsimp only at f10
          replace f11 : xa 11 = _ := f11
          try dsimp only at f11
          replace f12 : xa 12 = _ := f12
          try dsimp only at f12
          replace f13 : xa 13 = _ := f13
          try dsimp only at f13
          replace f14 : xa 14 = _ := f14
          try dsimp only at f14
          replace f15 : xa 15 = _ := f15
          try dsimp only at f15
          replace f16 : xa 16 = _ := f16
          try dsimp only at f16
          replace f17 : xa 17 = _ := f17
          try dsimp only at f17
          replace f18 : xa 18 = _ := f18
          try dsimp only at f18
          replace f19 : xa 19 = _ := f19
          try dsimp only at f19
          replace f20 : xa 20 = _ := f20
          try dsimp only at f20
          replace f21 : xa 21 = _ := f21
          try dsimp only at f21
          replace f22 : xa 22 = _ := f22
          try dsimp only at f22
          replace f23 : xa 23 = _ := f23
          try dsimp only at f23
          replace f24 : xa 24 = _ := f24
          try dsimp only at f24
          replace f25 : xa 25 = _ := f25
          try dsimp only at f25
          change wpList _ _ _ _ (Act.put (Act.put (Act.put (Act.put (Act.put (Act.put (Act.put (Act.put (Act.put (Act.put (Act.put (Act.put (Act.put (Act.put (Act.put (Act.put (Act.put (Act.put (Act.put (Act.put (Act.put (Act.put (Act.put (Act.put (Act.put (Act.put _ (some 37) (xa 0)) (some 38) (xa 1)) (some 39) (xa 2)) (some 40) (xa 3)) (some 41) (xa 4)) (some 42) (xa 5)) (some 43) (xa 6)) (some 44) (xa 7)) (some 45) (xa 8)) (some 46) (xa 9)) (some 47) (xa 10)) (some 48) (xa 11)) (some 49) (xa 12)) (some 50) (xa 13)) (some 51) (xa 14)) (some 52) (xa 15)) (some 53) (xa 16)) (some 54) (xa 17)) (some 55) (xa 18)) (some 56) (xa 19)) (some 57) (xa 20)) (some 58) (xa 21)) (some 59) (xa 22)) (some 60) (xa 23)) (some 61) (xa 24)) (some 36) (xa 25)) _
          simp only [putsL, Nat.reduceAdd, List.drop_succ_cons, List.drop_zero, List.drop_nil, Act.put, List.setIfInBounds_toArray, List.set_cons_succ, List.set_cons_zero]
          try simp only [f0, f1, f2, f3, f4, f5, f6, f7, f8, f9, f10, f11, f12, f13, f14, f15, f16, f17, f18, f19, f20, f21, f22, f23, f24, f25]
          clear f0 f1 f2 f3 f4 f5 f6 f7 f8 f9 f10 f11 f12 f13 f14 f15 f16 f17 f18 f19 f20 f21 f22 f23 f24 f25
          clear holda hapa
          clear p2 q2 hb1 hb2 hX hX2 hprev c0 c1 c2
          go_wp2
          go_roundw
          case rel => exact ⟨1, by omega, rfl, hz.succ (by rw [hv.out, hk1, hk2, hk3, hk4]; rfl), he2.trans ((Ext.refl _).drew.trans hera)⟩
          case measure => simp [intOf]; omega
        · obtain ⟨j, rfl⟩ : ∃ j, k = j + 1 := ⟨k - 1, by omega⟩
          obtain ⟨y, hy⟩ := getD_some hl.out (show j < n by omega)
          obtain ⟨-, d0, d1⟩ := hprev.out j y rfl hy
          obtain ⟨t1, t2, -, -⟩ := hs.out y (List.mem_of_getElem? hy)
          have hat : atL default xs (j + 1 - 1) = y := by rw [Nat.add_sub_cancel]; exact atL_of hy
          rw [hat] at hv
          have hwj : IntKind.i64.wrap (j : Int) = j := IntWalk.i64_in _ (by omega)
          have hjl : (j : Int) < n := by omega
          have hj0 : 0 < (j : Int) + 1 := by omega
          clear hat hy hprev
          rcases legC_three y x with hlc | hlc | hlc
          all_goals
            refine wp_region_facts [] [([], false, false), ([0], false, false), ([0, 1], false, false), ([0, 1, 2], false, false), ([0, 1, 2], false, false), ([0, 1, 2, 4], false, false), ([0, 1, 2, 3, 4, 5], false, false), ([0, 1, 2, 3, 4, 5, 6], false, false), ([0, 1, 2, 3, 4, 5, 6, 7], false, false), ([0, 1, 2], false, false), ([0, 1, 2, 9], false, false), ([0, 1, 2, 3, 4, 5, 6, 7, 8, 9, 10], false, false), ([0, 1, 2], false, false), ([0, 1, 2], false, false), ([0, 1, 2, 13], false, false), ([0, 1, 2, 12, 13, 14], false, false), ([0, 1, 2, 12, 13, 14, 15], false, false), ([0, 1, 2, 12, 13, 14, 15, 16], false, false), ([0, 1, 2], false, false), ([0, 1, 2, 18], false, false), ([0, 1, 2, 12, 13, 14, 15, 16, 17, 18, 19], false, false), ([0, 1, 2, 3, 4, 5, 6, 7, 8, 9, 10, 11, 12, 13, 14, 15, 16, 17, 18, 19, 20], false, true), ([0, 1, 2, 3, 4, 5, 6, 7, 8, 9, 10, 11, 12, 13, 14, 15, 16, 17, 18, 19, 20, 21], false, false), ([0, 1, 2, 3, 4, 5, 6, 7, 8, 9, 10, 11, 12, 13, 14, 15, 16, 17, 18, 19, 20, 21, 22], false, false), ([0, 1, 2, 3, 4, 5, 6, 7, 8, 9, 10, 11, 12, 13, 14, 15, 16, 17, 18, 19, 20, 21, 22, 23], false, false), ([0, 1, 2, 3, 4, 5, 6, 7, 8, 9, 10, 11, 12, 13, 14, 15, 16, 17, 18, 19, 20, 21, 22, 23, 24], false, false)] (Ext) Ext (fun _ => True) (by kernel_rfl) (by kernel_rfl) Ext.refl (fun _ _ _ => Ext.trans) (fun _ _ h => h) (fun _ _ h => h.size) (fun _ _ h _ => h) trivial ?_
            dsimp only [List.length_cons, List.length_nil, List.drop_succ_cons, List.drop_zero, List.drop_nil]
            refine fac_quiet 0 rfl rfl rfl (fun _ _ h _ => h) rfl rfl ?_
            apply Exists.intro
            refine ⟨fun sv w' hw' hfa => ?_, ?_⟩
            · obtain ⟨hc, hf, hz9⟩ := (hbk.drew.trans hw').walk; obtain ⟨hc2, hf2, hz8⟩ := ((Ext.refl w2).drew.trans hw').walk; have y0 := (hc _ (off + j * 3) hbw).trans d0; have y1 := (hc _ (off + j * 3 + 1) hbw).trans d1; have x0 := (hc2 _ 0 hX2.lt).trans (hX2.cell 0); have x1 := (hc2 _ 1 hX2.lt).trans (hX2.cell 1)
              refine ⟨rfl, ?_⟩
              simp only [putsL]
              change quietTo _ _ _ _ (Sem.run _ (execOp (Act.eval _) _) _)
              try simp only [Act.put, List.setIfInBounds_toArray, List.set_cons_succ, List.set_cons_zero]
              simp [go_sem, quietTo, Ext.refl]
              all_goals try simp (disch := omega) only [IntWalk.i64_in]
              all_goals first
                | rfl
            refine fac_quiet 1 rfl rfl rfl (fun _ _ h _ => h) rfl rfl ?_
            apply Exists.intro
            refine ⟨fun sv w' hw' hfa => ?_, ?_⟩
            · obtain ⟨f0, -⟩ := hfa
              replace f0 : sv 0 = _ := f0
              try dsimp only at f0
              obtain ⟨hc, hf, hz9⟩ := (hbk.drew.trans hw').walk; obtain ⟨hc2, hf2, hz8⟩ := ((Ext.refl w2).drew.trans hw').walk; have y0 := (hc _ (off + j * 3) hbw).trans d0; have y1 := (hc _ (off + j * 3 + 1) hbw).trans d1; have x0 := (hc2 _ 0 hX2.lt).trans (hX2.cell 0); have x1 := (hc2 _ 1 hX2.lt).trans (hX2.cell 1)
              refine ⟨rfl, ?_⟩
              simp only [putsL]
              change quietTo _ _ _ _ (Sem.run _ (execOp (Act.eval (Act.put _ (some 37) (sv 0))) _) _)
              try simp only [Act.put, List.setIfInBounds_toArray, List.set_cons_succ, List.set_cons_zero]
              simp [go_sem, quietTo, Ext.refl, ↓IntWalk.iteOmega, f0, hj0]
              all_goals try simp (disch := omega) only [IntWalk.i64_in]
              all_goals first
                | rfl
            refine fac_quiet 2 rfl rfl rfl (fun _ _ h _ => h) rfl rfl ?_
            apply Exists.intro
            refine ⟨fun sv w' hw' hfa => ?_, ?_⟩
            · obtain ⟨f0, f1, -⟩ := hfa
              replace f0 : sv 0 = _ := f0
              try dsimp only at f0
              replace f1 : sv 1 = _ := f1
              try dsimp only at f1
              obtain ⟨hc, hf, hz9⟩ := (hbk.drew.trans hw').walk; obtain ⟨hc2, hf2, hz8⟩ := ((Ext.refl w2).drew.trans hw').walk; have y0 := (hc _ (off + j * 3) hbw).trans d0; have y1 := (hc _ (off + j * 3 + 1) hbw).trans d1; have x0 := (hc2 _ 0 hX2.lt).trans (hX2.cell 0); have x1 := (hc2 _ 1 hX2.lt).trans (hX2.cell 1)
              refine ⟨rfl, ?_⟩
              simp only [putsL]
              change quietTo _ _ _ _ (Sem.run _ (execOp (Act.eval (Act.put (Act.put _ (some 38) (sv 1)) (some 37) (sv 0))) _) _)
              try simp only [Act.put, List.setIfInBounds_toArray, List.set_cons_succ, List.set_cons_zero]
              simp [go_sem, quietTo, Ext.refl, f1]
              all_goals try simp (disch := omega) only [IntWalk.i64_in]
              all_goals first
                | rfl
            refine fac_quiet 3 rfl rfl rfl (fun _ _ h _ => h) rfl rfl ?_
            apply Exists.intro
            refine ⟨fun sv w' hw' hfa => ?_, ?_⟩
            · obtain ⟨f0, f1, f2, -⟩ := hfa
              replace f0 : sv 0 = _ := f0
              try dsimp only at f0
              replace f1 : sv 1 = _ := f1
              try dsimp only at f1
              replace f2 : sv 2 = _ := f2
              try dsimp only at f2
              obtain ⟨hc, hf, hz9⟩ := (hbk.drew.trans hw').walk; obtain ⟨hc2, hf2, hz8⟩ := ((Ext.refl w2).drew.trans hw').walk; have y0 := (hc _ (off + j * 3) hbw).trans d0; have y1 := (hc _ (off + j * 3 + 1) hbw).trans d1; have x0 := (hc2 _ 0 hX2.lt).trans (hX2.cell 0); have x1 := (hc2 _ 1 hX2.lt).trans (hX2.cell 1)
              refine ⟨by simp [Region.wanted, yielded, putsL, Act.put, f2], ?_⟩
              simp only [putsL]
              change quietTo _ _ _ _ (Sem.run _ (execOp (Act.eval (Act.put (Act.put (Act.put _ (some 39) (sv 2)) (some 38) (sv 1)) (some 37) (sv 0))) _) _)
              try simp only [Act.put, List.setIfInBounds_toArray, List.set_cons_succ, List.set_cons_zero]
              simp [go_sem, quietTo, Ext.refl, f2]
              all_goals try simp (disch := omega) only [IntWalk.i64_in]
              all_goals first
                | rfl
            refine fac_quiet 4 rfl rfl rfl (fun _ _ h _ => h) rfl rfl ?_
            apply Exists.intro
            refine ⟨fun sv w' hw' hfa => ?_, ?_⟩
            · obtain ⟨f0, f1, f2, -⟩ := hfa
              replace f0 : sv 0 = _ := f0
              try dsimp only at f0
              replace f1 : sv 1 = _ := f1
              try dsimp only at f1
              replace f2 : sv 2 = _ := f2
              try dsimp only at f2
              obtain ⟨hc, hf, hz9⟩ := (hbk.drew.trans hw').walk; obtain ⟨hc2, hf2, hz8⟩ := ((Ext.refl w2).drew.trans hw').walk; have y0 := (hc _ (off + j * 3) hbw).trans d0; have y1 := (hc _ (off + j * 3 + 1) hbw).trans d1; have x0 := (hc2 _ 0 hX2.lt).trans (hX2.cell 0); have x1 := (hc2 _ 1 hX2.lt).trans (hX2.cell 1)
              refine ⟨by simp [Region.wanted, yielded, putsL, Act.put, f2], ?_⟩
              simp only [putsL]
              change quietTo _ _ _ _ (Sem.run _ (execOp (Act.eval (Act.put (Act.put (Act.put _ (some 39) (sv 2)) (some 38) (sv 1)) (some 37) (sv 0))) _) _)
              try simp only [Act.put, List.setIfInBounds_toArray, List.set_cons_succ, List.set_cons_zero]
              simp [go_sem, quietTo, Ext.refl, f2]
              all_goals try simp (disch := omega) only [IntWalk.i64_in]
              all_goals first
                | rfl
            refine fac_quiet 5 rfl rfl rfl (fun _ _ h _ => h) rfl rfl ?_
            apply Exists.intro
            refine ⟨fun sv w' hw' hfa => ?_, ?_⟩
            · obtain ⟨f0, f1, f2, f4, -⟩ := hfa
              replace f0 : sv 0 = _ := f0
              try dsimp only at f0
              replace f1 : sv 1 = _ := f1
              try dsimp only at f1
              replace f2 : sv 2 = _ := f2
              try dsimp only at f2
              replace f4 : sv 4 = _ := f4
              try dsimp only at f4
              obtain ⟨hc, hf, hz9⟩ := (hbk.drew.trans hw').walk; obtain ⟨hc2, hf2, hz8⟩ := ((Ext.refl w2).drew.trans hw').walk; have y0 := (hc _ (off + j * 3) hbw).trans d0; have y1 := (hc _ (off + j * 3 + 1) hbw).trans d1; have x0 := (hc2 _ 0 hX2.lt).trans (hX2.cell 0); have x1 := (hc2 _ 1 hX2.lt).trans (hX2.cell 1)
              refine ⟨by simp [Region.wanted, yielded, putsL, Act.put, f2, f4], ?_⟩
              simp only [putsL]
              change quietTo _ _ _ _ (Sem.run _ (execOp (Act.eval (Act.put (Act.put (Act.put (Act.put _ (some 41) (sv 4)) (some 39) (sv 2)) (some 38) (sv 1)) (some 37) (sv 0))) _) _)
              try simp only [Act.put, List.setIfInBounds_toArray, List.set_cons_succ, List.set_cons_zero]
              simp [go_sem, quietTo, Ext.refl, ↓IntWalk.iteOmega, f2, f4, hwj]
              all_goals try simp (disch := omega) only [IntWalk.i64_in]
              all_goals first
                | rfl
            refine fac_quiet 6 rfl rfl rfl (fun _ _ h _ => h) rfl rfl ?_
            apply Exists.intro
            refine ⟨fun sv w' hw' hfa => ?_, ?_⟩
            · obtain ⟨f0, f1, f2, f3, f4, f5, -⟩ := hfa
              replace f0 : sv 0 = _ := f0
              try dsimp only at f0
              replace f1 : sv 1 = _ := f1
              try dsimp only at f1
              replace f2 : sv 2 = _ := f2
              try dsimp only at f2
              replace f3 : sv 3 = _ := f3
              try dsimp only at f3
              replace f4 : sv 4 = _ := f4
              try dsimp only at f4
              replace f5 : sv 5 = _ := f5
              try dsimp only at f5
              obtain ⟨hc, hf, hz9⟩ := (hbk.drew.trans hw').walk; obtain ⟨hc2, hf2, hz8⟩ := ((Ext.refl w2).drew.trans hw').walk; have y0 := (hc _ (off + j * 3) hbw).trans d0; have y1 := (hc _ (off + j * 3 + 1) hbw).trans d1; have x0 := (hc2 _ 0 hX2.lt).trans (hX2.cell 0); have x1 := (hc2 _ 1 hX2.lt).trans (hX2.cell 1)
              refine ⟨by simp [Region.wanted, yielded, putsL, Act.put, f2, f3, f5], ?_⟩
              simp only [putsL]
              change quietTo _ _ _ _ (Sem.run _ (execOp (Act.eval (Act.put (Act.put (Act.put (Act.put (Act.put (Act.put _ (some 42) (sv 5)) (some 41) (sv 4)) (some 40) (sv 3)) (some 39) (sv 2)) (some 38) (sv 1)) (some 37) (sv 0))) _) _)
              try simp only [Act.put, List.setIfInBounds_toArray, List.set_cons_succ, List.set_cons_zero]
              simp [go_sem, quietTo, Ext.refl, ↓IntWalk.iteOmega, f2, f3, f5, hjl]
              all_goals try simp (disch := omega) only [IntWalk.i64_in]
              all_goals first
                | rfl
            refine fac_quiet 7 rfl rfl rfl (fun _ _ h _ => h) rfl rfl ?_
            apply Exists.intro
            refine ⟨fun sv w' hw' hfa => ?_, ?_⟩
            · obtain ⟨f0, f1, f2, f3, f4, f5, f6, -⟩ := hfa
              replace f0 : sv 0 = _ := f0
              try dsimp only at f0
              replace f1 : sv 1 = _ := f1
              try dsimp only at f1
              replace f2 : sv 2 = _ := f2
              try dsimp only at f2
              replace f3 : sv 3 = _ := f3
              try dsimp only at f3
              replace f4 : sv 4 = _ := f4
              try dsimp only at f4
              replace f5 : sv 5 = _ := f5
              try dsimp only at f5
              replace f6 : sv 6 = _ := f6
              try dsimp only at f6
              obtain ⟨hc, hf, hz9⟩ := (hbk.drew.trans hw').walk; obtain ⟨hc2, hf2, hz8⟩ := ((Ext.refl w2).drew.trans hw').walk; have y0 := (hc _ (off + j * 3) hbw).trans d0; have y1 := (hc _ (off + j * 3 + 1) hbw).trans d1; have x0 := (hc2 _ 0 hX2.lt).trans (hX2.cell 0); have x1 := (hc2 _ 1 hX2.lt).trans (hX2.cell 1)
              refine ⟨by simp [Region.wanted, yielded, putsL, Act.put, f2, f6], ?_⟩
              simp only [putsL]
              change quietTo _ _ _ _ (Sem.run _ (execOp (Act.eval (Act.put (Act.put (Act.put (Act.put (Act.put (Act.put (Act.put _ (some 43) (sv 6)) (some 42) (sv 5)) (some 41) (sv 4)) (some 40) (sv 3)) (some 39) (sv 2)) (some 38) (sv 1)) (some 37) (sv 0))) _) _)
              try simp only [Act.put, List.setIfInBounds_toArray, List.set_cons_succ, List.set_cons_zero]
              simp [go_sem, quietTo, Ext.refl, f2, f6]
              all_goals try simp (disch := omega) only [IntWalk.i64_in]
              all_goals first
                | rfl
            refine fac_quiet 8 rfl rfl rfl (fun _ _ h _ => h) rfl rfl ?_
            apply Exists.intro
            refine ⟨fun sv w' hw' hfa => ?_, ?_⟩
            · obtain ⟨f0, f1, f2, f3, f4, f5, f6, f7, -⟩ := hfa
              replace f0 : sv 0 = _ := f0
              try dsimp only at f0
              replace f1 : sv 1 = _ := f1
              try dsimp only at f1
              replace f2 : sv 2 = _ := f2
              try dsimp only at f2
              replace f3 : sv 3 = _ := f3
              try dsimp only at f3
              replace f4 : sv 4 = _ := f4
              try dsimp only at f4
              replace f5 : sv 5 = _ := f5
              try dsimp only at f5
              replace f6 : sv 6 = _ := f6
              try dsimp only at f6
              replace f7 : sv 7 = _ := f7
              try dsimp only at f7
              obtain ⟨hc, hf, hz9⟩ := (hbk.drew.trans hw').walk; obtain ⟨hc2, hf2, hz8⟩ := ((Ext.refl w2).drew.trans hw').walk; have y0 := (hc _ (off + j * 3) hbw).trans d0; have y1 := (hc _ (off + j * 3 + 1) hbw).trans d1; have x0 := (hc2 _ 0 hX2.lt).trans (hX2.cell 0); have x1 := (hc2 _ 1 hX2.lt).trans (hX2.cell 1)
              refine ⟨by simp [Region.wanted, yielded, putsL, Act.put, f2, f7], ?_⟩
              simp only [putsL]
              change quietTo _ _ _ _ (Sem.run _ (execOp (Act.eval (Act.put (Act.put (Act.put (Act.put (Act.put (Act.put (Act.put (Act.put _ (some 44) (sv 7)) (some 43) (sv 6)) (some 42) (sv 5)) (some 41) (sv 4)) (some 40) (sv 3)) (some 39) (sv 2)) (some 38) (sv 1)) (some 37) (sv 0))) _) _)
              try simp only [Act.put, List.setIfInBounds_toArray, List.set_cons_succ, List.set_cons_zero]
              simp [go_sem, quietTo, Ext.refl, ↓IntWalk.iteOmega, f2, f7, y0]
              all_goals try simp (disch := omega) only [IntWalk.i64_in]
              all_goals first
                | rfl
            refine fac_quiet 9 rfl rfl rfl (fun _ _ h _ => h) rfl rfl ?_
            apply Exists.intro
            refine ⟨fun sv w' hw' hfa => ?_, ?_⟩
            · obtain ⟨f0, f1, f2, -⟩ := hfa
              replace f0 : sv 0 = _ := f0
              try dsimp only at f0
              replace f1 : sv 1 = _ := f1
              try dsimp only at f1
              replace f2 : sv 2 = _ := f2
              try dsimp only at f2
              obtain ⟨hc, hf, hz9⟩ := (hbk.drew.trans hw').walk; obtain ⟨hc2, hf2, hz8⟩ := ((Ext.refl w2).drew.trans hw').walk; have y0 := (hc _ (off + j * 3) hbw).trans d0; have y1 := (hc _ (off + j * 3 + 1) hbw).trans d1; have x0 := (hc2 _ 0 hX2.lt).trans (hX2.cell 0); have x1 := (hc2 _ 1 hX2.lt).trans (hX2.cell 1)
              refine ⟨by simp [Region.wanted, yielded, putsL, Act.put, f2], ?_⟩
              simp only [putsL]
              change quietTo _ _ _ _ (Sem.run _ (execOp (Act.eval (Act.put (Act.put (Act.put _ (some 39) (sv 2)) (some 38) (sv 1)) (some 37) (sv 0))) _) _)
              try simp only [Act.put, List.setIfInBounds_toArray, List.set_cons_succ, List.set_cons_zero]
              simp [go_sem, quietTo, Ext.refl, f2]
              all_goals try simp (disch := omega) only [IntWalk.i64_in]
              all_goals first
                | rfl
            refine fac_quiet 10 rfl rfl rfl (fun _ _ h _ => h) rfl rfl ?_
            apply Exists.intro
            refine ⟨fun sv w' hw' hfa => ?_, ?_⟩
            · obtain ⟨f0, f1, f2, f9, -⟩ := hfa
              replace f0 : sv 0 = _ := f0
              try dsimp only at f0
              replace f1 : sv 1 = _ := f1
              try dsimp only at f1
              replace f2 : sv 2 = _ := f2
              try dsimp only at f2
              replace f9 : sv 9 = _ := f9
              try dsimp only at f9
              obtain ⟨hc, hf, hz9⟩ := (hbk.drew.trans hw').walk; obtain ⟨hc2, hf2, hz8⟩ := ((Ext.refl w2).drew.trans hw').walk; have y0 := (hc _ (off + j * 3) hbw).trans d0; have y1 := (hc _ (off + j * 3 + 1) hbw).trans d1; have x0 := (hc2 _ 0 hX2.lt).trans (hX2.cell 0); have x1 := (hc2 _ 1 hX2.lt).trans (hX2.cell 1)
              refine ⟨by simp [Region.wanted, yielded, putsL, Act.put, f2, f9], ?_⟩
              simp only [putsL]
              change quietTo _ _ _ _ (Sem.run _ (execOp (Act.eval (Act.put (Act.put (Act.put (Act.put _ (some 46) (sv 9)) (some 39) (sv 2)) (some 38) (sv 1)) (some 37) (sv 0))) _) _)
              try simp only [Act.put, List.setIfInBounds_toArray, List.set_cons_succ, List.set_cons_zero]
              simp [go_sem, quietTo, Ext.refl, ↓IntWalk.iteOmega, f2, f9, x0]
              all_goals try simp (disch := omega) only [IntWalk.i64_in]
              all_goals first
                | rfl
            refine fac_quiet 11 rfl rfl rfl (fun _ _ h _ => h) rfl rfl ?_
            apply Exists.intro
            refine ⟨fun sv w' hw' hfa => ?_, ?_⟩
            · obtain ⟨f0, f1, f2, f3, f4, f5, f6, f7, f8, f9, f10, -⟩ := hfa
              replace f0 : sv 0 = _ := f0
              try dsimp only at f0
              replace f1 : sv 1 = _ := f1
              try dsimp only at f1
              replace f2 : sv 2 = _ := f2
              try dsimp only at f2
              replace f3 : sv 3 = _ := f3
              try dsimp only at f3
              replace f4 : sv 4 = _ := f4
              try dsimp only at f4
              replace f5 : sv 5 = _ := f5
              try dsimp only at f5
              replace f6 : sv 6 = _ := f6
              try dsimp only at f6
              replace f7 : sv 7 = _ := f7
              try dsimp only at f7
              replace f8 : sv 8 = _ := f8
              try dsimp only at f8
              replace f9 : sv 9 = _ := f9
              try dsimp only at f9
              replace f10 : sv 10 = _ := f10
              try dsimp only at f10
              obtain ⟨hc, hf, hz9⟩ := (hbk.drew.trans hw').walk; obtain ⟨hc2, hf2, hz8⟩ := ((Ext.refl w2).drew.trans hw').walk; have y0 := (hc _ (off + j * 3) hbw).trans d0; have y1 := (hc _ (off + j * 3 + 1) hbw).trans d1; have x0 := (hc2 _ 0 hX2.lt).trans (hX2.cell 0); have x1 := (hc2 _ 1 hX2.lt).trans (hX2.cell 1)
              refine ⟨by simp [Region.wanted, yielded, putsL, Act.put, f2, f8, f10], ?_⟩
              simp only [putsL]
              change quietTo _ _ _ _ (Sem.run _ (execOp (Act.eval (Act.put (Act.put (Act.put (Act.put (Act.put (Act.put (Act.put (Act.put (Act.put (Act.put (Act.put _ (some 47) (sv 10)) (some 46) (sv 9)) (some 45) (sv 8)) (some 44) (sv 7)) (some 43) (sv 6)) (some 42) (sv 5)) (some 41) (sv 4)) (some 40) (sv 3)) (some 39) (sv 2)) (some 38) (sv 1)) (some 37) (sv 0))) _) _)
              try simp only [Act.put, List.setIfInBounds_toArray, List.set_cons_succ, List.set_cons_zero]
              simp [go_sem, quietTo, Ext.refl, ↓IntWalk.iteOmega, f2, f8, f10]
              all_goals try simp (disch := omega) only [IntWalk.i64_in]
              all_goals first
                | rfl
                | (exact cmpS_call y.fr x.fr _)
            refine fac_quiet 12 rfl rfl rfl (fun _ _ h _ => h) rfl rfl ?_
            apply Exists.intro
            refine ⟨fun sv w' hw' hfa => ?_, ?_⟩
            · obtain ⟨f0, f1, f2, -⟩ := hfa
              replace f0 : sv 0 = _ := f0
              try dsimp only at f0
              replace f1 : sv 1 = _ := f1
              try dsimp only at f1
              replace f2 : sv 2 = _ := f2
              try dsimp only at f2
              obtain ⟨hc, hf, hz9⟩ := (hbk.drew.trans hw').walk; obtain ⟨hc2, hf2, hz8⟩ := ((Ext.refl w2).drew.trans hw').walk; have y0 := (hc _ (off + j * 3) hbw).trans d0; have y1 := (hc _ (off + j * 3 + 1) hbw).trans d1; have x0 := (hc2 _ 0 hX2.lt).trans (hX2.cell 0); have x1 := (hc2 _ 1 hX2.lt).trans (hX2.cell 1)
              refine ⟨by simp [Region.wanted, yielded, putsL, Act.put, f2], ?_⟩
              simp only [putsL]
              change quietTo _ _ _ _ (Sem.run _ (execOp (Act.eval (Act.put (Act.put (Act.put _ (some 39) (sv 2)) (some 38) (sv 1)) (some 37) (sv 0))) _) _)
              try simp only [Act.put, List.setIfInBounds_toArray, List.set_cons_succ, List.set_cons_zero]
              simp [go_sem, quietTo, Ext.refl, f2]
              all_goals try simp (disch := omega) only [IntWalk.i64_in]
              all_goals first
                | rfl
            refine fac_quiet 13 rfl rfl rfl (fun _ _ h _ => h) rfl rfl ?_
            apply Exists.intro
            refine ⟨fun sv w' hw' hfa => ?_, ?_⟩
            · obtain ⟨f0, f1, f2, -⟩ := hfa
              replace f0 : sv 0 = _ := f0
              try dsimp only at f0
              replace f1 : sv 1 = _ := f1
              try dsimp only at f1
              replace f2 : sv 2 = _ := f2
              try dsimp only at f2
              obtain ⟨hc, hf, hz9⟩ := (hbk.drew.trans hw').walk; obtain ⟨hc2, hf2, hz8⟩ := ((Ext.refl w2).drew.trans hw').walk; have y0 := (hc _ (off + j * 3) hbw).trans d0; have y1 := (hc _ (off + j * 3 + 1) hbw).trans d1; have x0 := (hc2 _ 0 hX2.lt).trans (hX2.cell 0); have x1 := (hc2 _ 1 hX2.lt).trans (hX2.cell 1)
              refine ⟨by simp [Region.wanted, yielded, putsL, Act.put, f2], ?_⟩
              simp only [putsL]
              change quietTo _ _ _ _ (Sem.run _ (execOp (Act.eval (Act.put (Act.put (Act.put _ (some 39) (sv 2)) (some 38) (sv 1)) (some 37) (sv 0))) _) _)
              try simp only [Act.put, List.setIfInBounds_toArray, List.set_cons_succ, List.set_cons_zero]
              simp [go_sem, quietTo, Ext.refl, f2]
              all_goals try simp (disch := omega) only [IntWalk.i64_in]
              all_goals first
                | rfl
            refine fac_quiet 14 rfl rfl rfl (fun _ _ h _ => h) rfl rfl ?_
            apply Exists.intro
            refine ⟨fun sv w' hw' hfa => ?_, ?_⟩
            · obtain ⟨f0, f1, f2, f13, -⟩ := hfa
              replace f0 : sv 0 = _ := f0
              try dsimp only at f0
              replace f1 : sv 1 = _ := f1
              try dsimp only at f1
              replace f2 : sv 2 = _ := f2
              try dsimp only at f2
              replace f13 : sv 13 = _ := f13
              try dsimp only at f13
              obtain ⟨hc, hf, hz9⟩ := (hbk.drew.trans hw').walk; obtain ⟨hc2, hf2, hz8⟩ := ((Ext.refl w2).drew.trans hw').walk; have y0 := (hc _ (off + j * 3) hbw).trans d0; have y1 := (hc _ (off + j * 3 + 1) hbw).trans d1; have x0 := (hc2 _ 0 hX2.lt).trans (hX2.cell 0); have x1 := (hc2 _ 1 hX2.lt).trans (hX2.cell 1)
              refine ⟨by simp [Region.wanted, yielded, putsL, Act.put, f2, f13], ?_⟩
              simp only [putsL]
              change quietTo _ _ _ _ (Sem.run _ (execOp (Act.eval (Act.put (Act.put (Act.put (Act.put _ (some 50) (sv 13)) (some 39) (sv 2)) (some 38) (sv 1)) (some 37) (sv 0))) _) _)
              try simp only [Act.put, List.setIfInBounds_toArray, List.set_cons_succ, List.set_cons_zero]
              simp [go_sem, quietTo, Ext.refl, ↓IntWalk.iteOmega, f2, f13, hwj]
              all_goals try simp (disch := omega) only [IntWalk.i64_in]
              all_goals first
                | rfl
            refine fac_quiet 15 rfl rfl rfl (fun _ _ h _ => h) rfl rfl ?_
            apply Exists.intro
            refine ⟨fun sv w' hw' hfa => ?_, ?_⟩
            · obtain ⟨f0, f1, f2, f12, f13, f14, -⟩ := hfa
              replace f0 : sv 0 = _ := f0
              try dsimp only at f0
              replace f1 : sv 1 = _ := f1
              try dsimp only at f1
              replace f2 : sv 2 = _ := f2
              try dsimp only at f2
              replace f12 : sv 12 = _ := f12
              try dsimp only at f12
              replace f13 : sv 13 = _ := f13
              try dsimp only at f13
              replace f14 : sv 14 = _ := f14
              try dsimp only at f14
              obtain ⟨hc, hf, hz9⟩ := (hbk.drew.trans hw').walk; obtain ⟨hc2, hf2, hz8⟩ := ((Ext.refl w2).drew.trans hw').walk; have y0 := (hc _ (off + j * 3) hbw).trans d0; have y1 := (hc _ (off + j * 3 + 1) hbw).trans d1; have x0 := (hc2 _ 0 hX2.lt).trans (hX2.cell 0); have x1 := (hc2 _ 1 hX2.lt).trans (hX2.cell 1)
              refine ⟨by simp [Region.wanted, yielded, putsL, Act.put, f2, f12, f14], ?_⟩
              simp only [putsL]
              change quietTo _ _ _ _ (Sem.run _ (execOp (Act.eval (Act.put (Act.put (Act.put (Act.put (Act.put (Act.put _ (some 51) (sv 14)) (some 50) (sv 13)) (some 49) (sv 12)) (some 39) (sv 2)) (some 38) (sv 1)) (some 37) (sv 0))) _) _)
              try simp only [Act.put, List.setIfInBounds_toArray, List.set_cons_succ, List.set_cons_zero]
              simp [go_sem, quietTo, Ext.refl, ↓IntWalk.iteOmega, f2, f12, f14, hjl]
              all_goals try simp (disch := omega) only [IntWalk.i64_in]
              all_goals first
                | rfl
            refine fac_quiet 16 rfl rfl rfl (fun _ _ h _ => h) rfl rfl ?_
            apply Exists.intro
            refine ⟨fun sv w' hw' hfa => ?_, ?_⟩
            · obtain ⟨f0, f1, f2, f12, f13, f14, f15, -⟩ := hfa
              replace f0 : sv 0 = _ := f0
              try dsimp only at f0
              replace f1 : sv 1 = _ := f1
              try dsimp only at f1
              replace f2 : sv 2 = _ := f2
              try dsimp only at f2
              replace f12 : sv 12 = _ := f12
              try dsimp only at f12
              replace f13 : sv 13 = _ := f13
              try dsimp only at f13
              replace f14 : sv 14 = _ := f14
              try dsimp only at f14
              replace f15 : sv 15 = _ := f15
              try dsimp only at f15
              obtain ⟨hc, hf, hz9⟩ := (hbk.drew.trans hw').walk; obtain ⟨hc2, hf2, hz8⟩ := ((Ext.refl w2).drew.trans hw').walk; have y0 := (hc _ (off + j * 3) hbw).trans d0; have y1 := (hc _ (off + j * 3 + 1) hbw).trans d1; have x0 := (hc2 _ 0 hX2.lt).trans (hX2.cell 0); have x1 := (hc2 _ 1 hX2.lt).trans (hX2.cell 1)
              refine ⟨by simp [Region.wanted, yielded, putsL, Act.put, f2, f15], ?_⟩
              simp only [putsL]
              change quietTo _ _ _ _ (Sem.run _ (execOp (Act.eval (Act.put (Act.put (Act.put (Act.put (Act.put (Act.put (Act.put _ (some 52) (sv 15)) (some 51) (sv 14)) (some 50) (sv 13)) (some 49) (sv 12)) (some 39) (sv 2)) (some 38) (sv 1)) (some 37) (sv 0))) _) _)
              try simp only [Act.put, List.setIfInBounds_toArray, List.set_cons_succ, List.set_cons_zero]
              simp [go_sem, quietTo, Ext.refl, f2, f15]
              all_goals try simp (disch := omega) only [IntWalk.i64_in]
              all_goals first
                | rfl
            refine fac_quiet 17 rfl rfl rfl (fun _ _ h _ => h) rfl rfl ?_
            apply Exists.intro
            refine ⟨fun sv w' hw' hfa => ?_, ?_⟩
            · obtain ⟨f0, f1, f2, f12, f13, f14, f15, f16, -⟩ := hfa
              replace f0 : sv 0 = _ := f0
              try dsimp only at f0
              replace f1 : sv 1 = _ := f1
              try dsimp only at f1
              replace f2 : sv 2 = _ := f2
              try dsimp only at f2
              replace f12 : sv 12 = _ := f12
              try dsimp only at f12
              replace f13 : sv 13 = _ := f13
              try dsimp only at f13
              replace f14 : sv 14 = _ := f14
              try dsimp only at f14
              replace f15 : sv 15 = _ := f15
              try dsimp only at f15
              replace f16 : sv 16 = _ := f16
              try dsimp only at f16
              obtain ⟨hc, hf, hz9⟩ := (hbk.drew.trans hw').walk; obtain ⟨hc2, hf2, hz8⟩ := ((Ext.refl w2).drew.trans hw').walk; have y0 := (hc _ (off + j * 3) hbw).trans d0; have y1 := (hc _ (off + j * 3 + 1) hbw).trans d1; have x0 := (hc2 _ 0 hX2.lt).trans (hX2.cell 0); have x1 := (hc2 _ 1 hX2.lt).trans (hX2.cell 1)
              refine ⟨by simp [Region.wanted, yielded, putsL, Act.put, f2, f16], ?_⟩
              simp only [putsL]
              change quietTo _ _ _ _ (Sem.run _ (execOp (Act.eval (Act.put (Act.put (Act.put (Act.put (Act.put (Act.put (Act.put (Act.put _ (some 53) (sv 16)) (some 52) (sv 15)) (some 51) (sv 14)) (some 50) (sv 13)) (some 49) (sv 12)) (some 39) (sv 2)) (some 38) (sv 1)) (some 37) (sv 0))) _) _)
              try simp only [Act.put, List.setIfInBounds_toArray, List.set_cons_succ, List.set_cons_zero]
              simp [go_sem, quietTo, Ext.refl, ↓IntWalk.iteOmega, f2, f16, y1]
              all_goals try simp (disch := omega) only [IntWalk.i64_in]
              all_goals first
                | rfl
            refine fac_quiet 18 rfl rfl rfl (fun _ _ h _ => h) rfl rfl ?_
            apply Exists.intro
            refine ⟨fun sv w' hw' hfa => ?_, ?_⟩
            · obtain ⟨f0, f1, f2, -⟩ := hfa
              replace f0 : sv 0 = _ := f0
              try dsimp only at f0
              replace f1 : sv 1 = _ := f1
              try dsimp only at f1
              replace f2 : sv 2 = _ := f2
              try dsimp only at f2
              obtain ⟨hc, hf, hz9⟩ := (hbk.drew.trans hw').walk; obtain ⟨hc2, hf2, hz8⟩ := ((Ext.refl w2).drew.trans hw').walk; have y0 := (hc _ (off + j * 3) hbw).trans d0; have y1 := (hc _ (off + j * 3 + 1) hbw).trans d1; have x0 := (hc2 _ 0 hX2.lt).trans (hX2.cell 0); have x1 := (hc2 _ 1 hX2.lt).trans (hX2.cell 1)
              refine ⟨by simp [Region.wanted, yielded, putsL, Act.put, f2], ?_⟩
              simp only [putsL]
              change quietTo _ _ _ _ (Sem.run _ (execOp (Act.eval (Act.put (Act.put (Act.put _ (some 39) (sv 2)) (some 38) (sv 1)) (some 37) (sv 0))) _) _)
              try simp only [Act.put, List.setIfInBounds_toArray, List.set_cons_succ, List.set_cons_zero]
              simp [go_sem, quietTo, Ext.refl, f2]
              all_goals try simp (disch := omega) only [IntWalk.i64_in]
              all_goals first
                | rfl
            refine fac_quiet 19 rfl rfl rfl (fun _ _ h _ => h) rfl rfl ?_
            apply Exists.intro
            refine ⟨fun sv w' hw' hfa => ?_, ?_⟩
            · obtain ⟨f0, f1, f2, f18, -⟩ := hfa
              replace f0 : sv 0 = _ := f0
              try dsimp only at f0
              replace f1 : sv 1 = _ := f1
              try dsimp only at f1
              replace f2 : sv 2 = _ := f2
              try dsimp only at f2
              replace f18 : sv 18 = _ := f18
              try dsimp only at f18
              obtain ⟨hc, hf, hz9⟩ := (hbk.drew.trans hw').walk; obtain ⟨hc2, hf2, hz8⟩ := ((Ext.refl w2).drew.trans hw').walk; have y0 := (hc _ (off + j * 3) hbw).trans d0; have y1 := (hc _ (off + j * 3 + 1) hbw).trans d1; have x0 := (hc2 _ 0 hX2.lt).trans (hX2.cell 0); have x1 := (hc2 _ 1 hX2.lt).trans (hX2.cell 1)
              refine ⟨by simp [Region.wanted, yielded, putsL, Act.put, f2, f18], ?_⟩
              simp only [putsL]
              change quietTo _ _ _ _ (Sem.run _ (execOp (Act.eval (Act.put (Act.put (Act.put (Act.put _ (some 55) (sv 18)) (some 39) (sv 2)) (some 38) (sv 1)) (some 37) (sv 0))) _) _)
              try simp only [Act.put, List.setIfInBounds_toArray, List.set_cons_succ, List.set_cons_zero]
              simp [go_sem, quietTo, Ext.refl, ↓IntWalk.iteOmega, f2, f18, x1]
              all_goals try simp (disch := omega) only [IntWalk.i64_in]
              all_goals first
                | rfl
            refine fac_quiet 20 rfl rfl rfl (fun _ _ h _ => h) rfl rfl ?_
            apply Exists.intro
            refine ⟨fun sv w' hw' hfa => ?_, ?_⟩
            · obtain ⟨f0, f1, f2, f12, f13, f14, f15, f16, f17, f18, f19, -⟩ := hfa
              replace f0 : sv 0 = _ := f0
              try dsimp only at f0
              replace f1 : sv 1 = _ := f1
              try dsimp only at f1
              replace f2 : sv 2 = _ := f2
              try dsimp only at f2
              replace f12 : sv 12 = _ := f12
              try dsimp only at f12
              replace f13 : sv 13 = _ := f13
              try dsimp only at f13
              replace f14 : sv 14 = _ := f14
              try dsimp only at f14
              replace f15 : sv 15 = _ := f15
              try dsimp only at f15
              replace f16 : sv 16 = _ := f16
              try dsimp only at f16
              replace f17 : sv 17 = _ := f17
              try dsimp only at f17
              replace f18 : sv 18 = _ := f18
              try dsimp only at f18
              replace f19 : sv 19 = _ := f19
              try dsimp only at f19
              obtain ⟨hc, hf, hz9⟩ := (hbk.drew.trans hw').walk; obtain ⟨hc2, hf2, hz8⟩ := ((Ext.refl w2).drew.trans hw').walk; have y0 := (hc _ (off + j * 3) hbw).trans d0; have y1 := (hc _ (off + j * 3 + 1) hbw).trans d1; have x0 := (hc2 _ 0 hX2.lt).trans (hX2.cell 0); have x1 := (hc2 _ 1 hX2.lt).trans (hX2.cell 1)
              refine ⟨by simp [Region.wanted, yielded, putsL, Act.put, f2, f17, f19], ?_⟩
              simp only [putsL]
              change quietTo _ _ _ _ (Sem.run _ (execOp (Act.eval (Act.put (Act.put (Act.put (Act.put (Act.put (Act.put (Act.put (Act.put (Act.put (Act.put (Act.put _ (some 56) (sv 19)) (some 55) (sv 18)) (some 54) (sv 17)) (some 53) (sv 16)) (some 52) (sv 15)) (some 51) (sv 14)) (some 50) (sv 13)) (some 49) (sv 12)) (some 39) (sv 2)) (some 38) (sv 1)) (some 37) (sv 0))) _) _)
              try simp only [Act.put, List.setIfInBounds_toArray, List.set_cons_succ, List.set_cons_zero]
              simp [go_sem, quietTo, Ext.refl, ↓IntWalk.iteOmega, f2, f17, f19]
              all_goals try simp (disch := omega) only [IntWalk.i64_in]
              all_goals first
                | rfl
                | (exact cmpS_call y.to x.to _)
            refine fac_row 21 rfl rfl rfl (fun _ _ h _ => h) (fun _ _ h => h.size) (fun _ _ _ _ _ he _ hb => hb.ext he) ?_
            apply Exists.intro
            apply Exists.intro
            apply Exists.intro
            apply Exists.intro
            refine ⟨fun sv w' hw' hfa => ?_, ?_⟩
            · obtain ⟨f0, f1, f2, f3, f4, f5, f6, f7, f8, f9, f10, f11, f12, f13, f14, f15, f16, f17, f18, f19, f20, -⟩ := hfa
              replace f0 : sv 0 = _ := f0
              try dsimp only at f0
              replace f1 : sv 1 = _ := f1
              try dsimp only at f1
              replace f2 : sv 2 = _ := f2
              try dsimp only at f2
              replace f3 : sv 3 = _ := f3
              try dsimp only at f3
              replace f4 : sv 4 = _ := f4
              try dsimp only at f4
              replace f5 : sv 5 = _ := f5
              try dsimp only at f5
              replace f6 : sv 6 = _ := f6
              try dsimp only at f6
              replace f7 : sv 7 = _ := f7
              try dsimp only at f7
              replace f8 : sv 8 = _ := f8
              try dsimp only at f8
              replace f9 : sv 9 = _ := f9
              try dsimp only at f9
              replace f10 : sv 10 = _ := f10
              try dsimp only at f10
              replace f11 : sv 11 = _ := f11
              try dsimp only at f11
              replace f12 : sv 12 = _ := f12
              try dsimp only at f12
              replace f13 : sv 13 = _ := f13
              try dsimp only at f13
              replace f14 : sv 14 = _ := f14
              try dsimp only at f14
              replace f15 : sv 15 = _ := f15
              try dsimp only at f15
              replace f16 : sv 16 = _ := f16
              try dsimp only at f16
              replace f17 : sv 17 = _ := f17
              try dsimp only at f17
              replace f18 : sv 18 = _ := f18
              try dsimp only at f18
              replace f19 : sv 19 = _ := f19
              try dsimp only at f19
              replace f20 : sv 20 = _ := f20
              try dsimp only at f20
              obtain ⟨hc, hf, hz9⟩ := (hbk.drew.trans hw').walk; obtain ⟨hc2, hf2, hz8⟩ := ((Ext.refl w2).drew.trans hw').walk; have y0 := (hc _ (off + j * 3) hbw).trans d0; have y1 := (hc _ (off + j * 3 + 1) hbw).trans d1; have x0 := (hc2 _ 0 hX2.lt).trans (hX2.cell 0); have x1 := (hc2 _ 1 hX2.lt).trans (hX2.cell 1)
              refine ⟨by simp [Region.wanted, yielded, putsL, Act.put, f2, f11, f20], ?_⟩
              simp only [putsL]
              change rowTo _ _ _ _ _ (Sem.run _ (execOp (Act.eval (Act.put (Act.put (Act.put (Act.put (Act.put (Act.put (Act.put (Act.put (Act.put (Act.put (Act.put (Act.put (Act.put (Act.put (Act.put (Act.put (Act.put (Act.put (Act.put (Act.put (Act.put _ (some 57) (sv 20)) (some 56) (sv 19)) (some 55) (sv 18)) (some 54) (sv 17)) (some 53) (sv 16)) (some 52) (sv 15)) (some 51) (sv 14)) (some 50) (sv 13)) (some 49) (sv 12)) (some 48) (sv 11)) (some 47) (sv 10)) (some 46) (sv 9)) (some 45) (sv 8)) (some 44) (sv 7)) (some 43) (sv 6)) (some 42) (sv 5)) (some 41) (sv 4)) (some 40) (sv 3)) (some 39) (sv 2)) (some 38) (sv 1)) (some 37) (sv 0))) _) _)
              try simp only [Act.put, List.setIfInBounds_toArray, List.set_cons_succ, List.set_cons_zero]
              simp [go_sem, rowTo, Ext.refl, f2, f11, f20]
              all_goals try simp (disch := omega) only [IntWalk.i64_in]
              all_goals first
                | rfl
                | exact ⟨rfl, rfl⟩
                | exact ⟨⟨rfl, rfl⟩, rfl⟩
            refine fac_quiet 22 rfl rfl rfl (fun _ _ h _ => h) rfl rfl ?_
            apply Exists.intro
            refine ⟨fun sv w' hw' hfa => ?_, ?_⟩
            · obtain ⟨f0, f1, f2, f3, f4, f5, f6, f7, f8, f9, f10, f11, f12, f13, f14, f15, f16, f17, f18, f19, f20, f21, -⟩ := hfa
              replace f0 : sv 0 = _ := f0
              try dsimp only at f0
              replace f1 : sv 1 = _ := f1
              try dsimp only at f1
              replace f2 : sv 2 = _ := f2
              try dsimp only at f2
              replace f3 : sv 3 = _ := f3
              try dsimp only at f3
              replace f4 : sv 4 = _ := f4
              try dsimp only at f4
              replace f5 : sv 5 = _ := f5
              try dsimp only at f5
              replace f6 : sv 6 = _ := f6
              try dsimp only at f6
              replace f7 : sv 7 = _ := f7
              try dsimp only at f7
              replace f8 : sv 8 = _ := f8
              try dsimp only at f8
              replace f9 : sv 9 = _ := f9
              try dsimp only at f9
              replace f10 : sv 10 = _ := f10
              try dsimp only at f10
              replace f11 : sv 11 = _ := f11
              try dsimp only at f11
              replace f12 : sv 12 = _ := f12
              try dsimp only at f12
              replace f13 : sv 13 = _ := f13
              try dsimp only at f13
              replace f14 : sv 14 = _ := f14
              try dsimp only at f14
              replace f15 : sv 15 = _ := f15
              try dsimp only at f15
              replace f16 : sv 16 = _ := f16
              try dsimp only at f16
              replace f17 : sv 17 = _ := f17
              try dsimp only at f17
              replace f18 : sv 18 = _ := f18
              try dsimp only at f18
              replace f19 : sv 19 = _ := f19
              try dsimp only at f19
              replace f20 : sv 20 = _ := f20
              try dsimp only at f20
              obtain ⟨g21, f21, l21, b21⟩ := f21
              replace f21 : sv 21 = _ := f21
              obtain ⟨p21, q21⟩ := b21.walk
              obtain ⟨hc, hf, hz9⟩ := (hbk.drew.trans hw').walk; obtain ⟨hc2, hf2, hz8⟩ := ((Ext.refl w2).drew.trans hw').walk; have y0 := (hc _ (off + j * 3) hbw).trans d0; have y1 := (hc _ (off + j * 3 + 1) hbw).trans d1; have x0 := (hc2 _ 0 hX2.lt).trans (hX2.cell 0); have x1 := (hc2 _ 1 hX2.lt).trans (hX2.cell 1)
              refine ⟨by simp [Region.wanted, yielded, putsL, Act.put, f2, f21, p21, q21], ?_⟩
              simp only [putsL]
              change quietTo _ _ _ _ (Sem.run _ (execOp (Act.eval (Act.put (Act.put (Act.put (Act.put (Act.put (Act.put (Act.put (Act.put (Act.put (Act.put (Act.put (Act.put (Act.put (Act.put (Act.put (Act.put (Act.put (Act.put (Act.put (Act.put (Act.put (Act.put _ (some 58) (sv 21)) (some 57) (sv 20)) (some 56) (sv 19)) (some 55) (sv 18)) (some 54) (sv 17)) (some 53) (sv 16)) (some 52) (sv 15)) (some 51) (sv 14)) (some 50) (sv 13)) (some 49) (sv 12)) (some 48) (sv 11)) (some 47) (sv 10)) (some 46) (sv 9)) (some 45) (sv 8)) (some 44) (sv 7)) (some 43) (sv 6)) (some 42) (sv 5)) (some 41) (sv 4)) (some 40) (sv 3)) (some 39) (sv 2)) (some 38) (sv 1)) (some 37) (sv 0))) _) _)
              try simp only [Act.put, List.setIfInBounds_toArray, List.set_cons_succ, List.set_cons_zero]
              simp [go_sem, quietTo, Ext.refl, ↓IntWalk.iteOmega, f2, f21, p21, q21]
              all_goals try simp (disch := omega) only [IntWalk.i64_in]
              all_goals first
                | rfl
                | (exact legOr y x _ _ _ b21)
            refine fac_quiet 23 rfl rfl rfl (fun _ _ h _ => h) rfl rfl ?_
            apply Exists.intro
            refine ⟨fun sv w' hw' hfa => ?_, ?_⟩
            · obtain ⟨f0, f1, f2, f3, f4, f5, f6, f7, f8, f9, f10, f11, f12, f13, f14, f15, f16, f17, f18, f19, f20, f21, f22, -⟩ := hfa
              replace f0 : sv 0 = _ := f0
              try dsimp only at f0
              replace f1 : sv 1 = _ := f1
              try dsimp only at f1
              replace f2 : sv 2 = _ := f2
              try dsimp only at f2
              replace f3 : sv 3 = _ := f3
              try dsimp only at f3
              replace f4 : sv 4 = _ := f4
              try dsimp only at f4
              replace f5 : sv 5 = _ := f5
              try dsimp only at f5
              replace f6 : sv 6 = _ := f6
              try dsimp only at f6
              replace f7 : sv 7 = _ := f7
              try dsimp only at f7
              replace f8 : sv 8 = _ := f8
              try dsimp only at f8
              replace f9 : sv 9 = _ := f9
              try dsimp only at f9
              replace f10 : sv 10 = _ := f10
              try dsimp only at f10
              replace f11 : sv 11 = _ := f11
              try dsimp only at f11
              replace f12 : sv 12 = _ := f12
              try dsimp only at f12
              replace f13 : sv 13 = _ := f13
              try dsimp only at f13
              replace f14 : sv 14 = _ := f14
              try dsimp only at f14
              replace f15 : sv 15 = _ := f15
              try dsimp only at f15
              replace f16 : sv 16 = _ := f16
              try dsimp only at f16
              replace f17 : sv 17 = _ := f17
              try dsimp only at f17
              replace f18 : sv 18 = _ := f18
              try dsimp only at f18
              replace f19 : sv 19 = _ := f19
              try dsimp only at f19
              replace f20 : sv 20 = _ := f20
              try dsimp only at f20
              obtain ⟨g21, f21, l21, b21⟩ := f21
              replace f21 : sv 21 = _ := f21
              obtain ⟨p21, q21⟩ := b21.walk
              replace f22 : sv 22 = _ := f22
              try dsimp only at f22
              obtain ⟨hc, hf, hz9⟩ := (hbk.drew.trans hw').walk; obtain ⟨hc2, hf2, hz8⟩ := ((Ext.refl w2).drew.trans hw').walk; have y0 := (hc _ (off + j * 3) hbw).trans d0; have y1 := (hc _ (off + j * 3 + 1) hbw).trans d1; have x0 := (hc2 _ 0 hX2.lt).trans (hX2.cell 0); have x1 := (hc2 _ 1 hX2.lt).trans (hX2.cell 1)
              refine ⟨by simp [Region.wanted, yielded, putsL, Act.put, f2, f22, p21, q21], ?_⟩
              simp only [putsL]
              change quietTo _ _ _ _ (Sem.run _ (execOp (Act.eval (Act.put (Act.put (Act.put (Act.put (Act.put (Act.put (Act.put (Act.put (Act.put (Act.put (Act.put (Act.put (Act.put (Act.put (Act.put (Act.put (Act.put (Act.put (Act.put (Act.put (Act.put (Act.put (Act.put _ (some 59) (sv 22)) (some 58) (sv 21)) (some 57) (sv 20)) (some 56) (sv 19)) (some 55) (sv 18)) (some 54) (sv 17)) (some 53) (sv 16)) (some 52) (sv 15)) (some 51) (sv 14)) (some 50) (sv 13)) (some 49) (sv 12)) (some 48) (sv 11)) (some 47) (sv 10)) (some 46) (sv 9)) (some 45) (sv 8)) (some 44) (sv 7)) (some 43) (sv 6)) (some 42) (sv 5)) (some 41) (sv 4)) (some 40) (sv 3)) (some 39) (sv 2)) (some 38) (sv 1)) (some 37) (sv 0))) _) _)
              try simp only [Act.put, List.setIfInBounds_toArray, List.set_cons_succ, List.set_cons_zero]
              simp [go_sem, quietTo, Ext.refl, ↓IntWalk.iteOmega, f2, f22, p21, q21, hlc]
              all_goals try simp (disch := omega) only [IntWalk.i64_in]
              all_goals first
                | rfl
            refine fac_quiet 24 rfl rfl rfl (fun _ _ h _ => h) rfl rfl ?_
            apply Exists.intro
            refine ⟨fun sv w' hw' hfa => ?_, ?_⟩
            · obtain ⟨f0, f1, f2, f3, f4, f5, f6, f7, f8, f9, f10, f11, f12, f13, f14, f15, f16, f17, f18, f19, f20, f21, f22, f23, -⟩ := hfa
              replace f0 : sv 0 = _ := f0
              try dsimp only at f0
              replace f1 : sv 1 = _ := f1
              try dsimp only at f1
              replace f2 : sv 2 = _ := f2
              try dsimp only at f2
              replace f3 : sv 3 = _ := f3
              try dsimp only at f3
              replace f4 : sv 4 = _ := f4
              try dsimp only at f4
              replace f5 : sv 5 = _ := f5
              try dsimp only at f5
              replace f6 : sv 6 = _ := f6
              try dsimp only at f6
              replace f7 : sv 7 = _ := f7
              try dsimp only at f7
              replace f8 : sv 8 = _ := f8
              try dsimp only at f8
              replace f9 : sv 9 = _ := f9
              try dsimp only at f9
              replace f10 : sv 10 = _ := f10
              try dsimp only at f10
              replace f11 : sv 11 = _ := f11
              try dsimp only at f11
              replace f12 : sv 12 = _ := f12
              try dsimp only at f12
              replace f13 : sv 13 = _ := f13
              try dsimp only at f13
              replace f14 : sv 14 = _ := f14
              try dsimp only at f14
              replace f15 : sv 15 = _ := f15
              try dsimp only at f15
              replace f16 : sv 16 = _ := f16
              try dsimp only at f16
              replace f17 : sv 17 = _ := f17
              try dsimp only at f17
              replace f18 : sv 18 = _ := f18
              try dsimp only at f18
              replace f19 : sv 19 = _ := f19
              try dsimp only at f19
              replace f20 : sv 20 = _ := f20
              try dsimp only at f20
              obtain ⟨g21, f21, l21, b21⟩ := f21
              replace f21 : sv 21 = _ := f21
              obtain ⟨p21, q21⟩ := b21.walk
              replace f22 : sv 22 = _ := f22
              try dsimp only at f22
              replace f23 : sv 23 = _ := f23
              try dsimp only at f23
              obtain ⟨hc, hf, hz9⟩ := (hbk.drew.trans hw').walk; obtain ⟨hc2, hf2, hz8⟩ := ((Ext.refl w2).drew.trans hw').walk; have y0 := (hc _ (off + j * 3) hbw).trans d0; have y1 := (hc _ (off + j * 3 + 1) hbw).trans d1; have x0 := (hc2 _ 0 hX2.lt).trans (hX2.cell 0); have x1 := (hc2 _ 1 hX2.lt).trans (hX2.cell 1)
              refine ⟨rfl, ?_⟩
              simp only [putsL]
              change quietTo _ _ _ _ (Sem.run _ (execOp (Act.eval (Act.put (Act.put (Act.put (Act.put (Act.put (Act.put (Act.put (Act.put (Act.put (Act.put (Act.put (Act.put (Act.put (Act.put (Act.put (Act.put (Act.put (Act.put (Act.put (Act.put (Act.put (Act.put (Act.put (Act.put _ (some 60) (sv 23)) (some 59) (sv 22)) (some 58) (sv 21)) (some 57) (sv 20)) (some 56) (sv 19)) (some 55) (sv 18)) (some 54) (sv 17)) (some 53) (sv 16)) (some 52) (sv 15)) (some 51) (sv 14)) (some 50) (sv 13)) (some 49) (sv 12)) (some 48) (sv 11)) (some 47) (sv 10)) (some 46) (sv 9)) (some 45) (sv 8)) (some 44) (sv 7)) (some 43) (sv 6)) (some 42) (sv 5)) (some 41) (sv 4)) (some 40) (sv 3)) (some 39) (sv 2)) (some 38) (sv 1)) (some 37) (sv 0))) _) _)
              try simp only [Act.put, List.setIfInBounds_toArray, List.set_cons_succ, List.set_cons_zero]
              simp [go_sem, quietTo, Ext.refl, ↓IntWalk.iteOmega, f2, f23, p21, q21]
              all_goals try simp (disch := omega) only [IntWalk.i64_in]
              all_goals first
                | rfl
            refine fac_quiet 25 rfl rfl rfl (fun _ _ h _ => h) rfl rfl ?_
            apply Exists.intro
            refine ⟨fun sv w' hw' hfa => ?_, ?_⟩
            · obtain ⟨f0, f1, f2, f3, f4, f5, f6, f7, f8, f9, f10, f11, f12, f13, f14, f15, f16, f17, f18, f19, f20, f21, f22, f23, f24, -⟩ := hfa
              replace f0 : sv 0 = _ := f0
              try dsimp only at f0
              replace f1 : sv 1 = _ := f1
              try dsimp only at f1
              replace f2 : sv 2 = _ := f2
              try dsimp only at f2
              replace f3 : sv 3 = _ := f3
              try dsimp only at f3
              replace f4 : sv 4 = _ := f4
              try dsimp only at f4
              replace f5 : sv 5 = _ := f5
              try dsimp only at f5
              replace f6 : sv 6 = _ := f6
              try dsimp only at f6
              replace f7 : sv 7 = _ := f7
              try dsimp only at f7
              replace f8 : sv 8 = _ := f8
              try dsimp only at f8
              replace f9 : sv 9 = _ := f9
              try dsimp only at f9
              replace f10 : sv 10 = _ := f10
              try dsimp only at f10
              replace f11 : sv 11 = _ := f11
              try dsimp only at f11
              replace f12 : sv 12 = _ := f12
              try dsimp only at f12
              replace f13 : sv 13 = _ := f13
              try dsimp only at f13
              replace f14 : sv 14 = _ := f14
              try dsimp only at f14
              replace f15 : sv 15 = _ := f15
              try dsimp only at f15
              replace f16 : sv 16 = _ := f16
              try dsimp only at f16
              replace f17 : sv 17 = _ := f17
              try dsimp only at f17
              replace f18 : sv 18 = _ := f18
              try dsimp only at f18
              replace f19 : sv 19 = _ := f19
              try dsimp only at f19
              replace f20 : sv 20 = _ := f20
              try dsimp only at f20
              obtain ⟨g21, f21, l21, b21⟩ := f21
              replace f21 : sv 21 = _ := f21
              obtain ⟨p21, q21⟩ := b21.walk
              replace f22 : sv 22 = _ := f22
              try dsimp only at f22
              replace f23 : sv 23 = _ := f23
              try dsimp only at f23
              replace f24 : sv 24 = _ := f24
              try dsimp only at f24
              obtain ⟨hc, hf, hz9⟩ := (hbk.drew.trans hw').walk; obtain ⟨hc2, hf2, hz8⟩ := ((Ext.refl w2).drew.trans hw').walk; have y0 := (hc _ (off + j * 3) hbw).trans d0; have y1 := (hc _ (off + j * 3 + 1) hbw).trans d1; have x0 := (hc2 _ 0 hX2.lt).trans (hX2.cell 0); have x1 := (hc2 _ 1 hX2.lt).trans (hX2.cell 1)
              refine ⟨rfl, ?_⟩
              simp only [putsL]
              change quietTo _ _ _ _ (Sem.run _ (execOp (Act.eval (Act.put (Act.put (Act.put (Act.put (Act.put (Act.put (Act.put (Act.put (Act.put (Act.put (Act.put (Act.put (Act.put (Act.put (Act.put (Act.put (Act.put (Act.put (Act.put (Act.put (Act.put (Act.put (Act.put (Act.put (Act.put _ (some 61) (sv 24)) (some 60) (sv 23)) (some 59) (sv 22)) (some 58) (sv 21)) (some 57) (sv 20)) (some 56) (sv 19)) (some 55) (sv 18)) (some 54) (sv 17)) (some 53) (sv 16)) (some 52) (sv 15)) (some 51) (sv 14)) (some 50) (sv 13)) (some 49) (sv 12)) (some 48) (sv 11)) (some 47) (sv 10)) (some 46) (sv 9)) (some 45) (sv 8)) (some 44) (sv 7)) (some 43) (sv 6)) (some 42) (sv 5)) (some 41) (sv 4)) (some 40) (sv 3)) (some 39) (sv 2)) (some 38) (sv 1)) (some 37) (sv 0))) _) _)
              try simp only [Act.put, List.setIfInBounds_toArray, List.set_cons_succ, List.set_cons_zero]
              simp [go_sem, quietTo, Ext.refl, f24]
              all_goals try simp (disch := omega) only [IntWalk.i64_in]
              all_goals first
                | rfl
            refine fac_nil fun xb wrb herb hfrb hcrb holdb hapb => ?_
            obtain ⟨f0, f1, f2, f3, f4, f5, f6, f7, f8, f9, f10, f11, f12, f13, f14, f15, f16, f17, f18, f19, f20, f21, f22, f23, f24, f25, -⟩ := hfrb
            replace f0 : xb 0 = _ := f0
            try dsimp only at f0
            replace f1 : xb 1 = _ := f1
            try dsimp only at f1
            replace f2 : xb 2 = _ := f2
            try dsimp only at f2
            replace f3 : xb 3 = _ := f3
            try dsimp only at f3
            replace f4 : xb 4 = _ := f4
            try dsimp only at f4
            replace f5 : xb 5 = _ := f5
            try dsimp only at f5
            replace f6 : xb 6 = _ := f6
            try dsimp only at f6
            replace f7 : xb 7 = _ := f7
            try dsimp only at f7
            replace f8 : xb 8 = _ := f8
            try dsimp only at f8
            replace f9 : xb 9 = _ := f9
            try dsimp only at f9
            replace f10 : xb 10 = _ := f10
            try dsimp only at f10
            replace f11 : xb 11 = _ := f11
            try dsimp only at f11
            replace f12 : xb 12 = _ := f12
            try dsimp only at f12
            replace f13 : xb 13 = _ := f13
            try dsimp only at f13
            replace f14 : xb 14 = _ := f14
            try dsimp only at f14
            replace f15 : xb 15 = _ := f15
            try dsimp only at f15
            replace f16 : xb 16 = _ := f16
            try dsimp only at f16
            replace f17 : xb 17 = _ := f17
            try dsimp only at f17
            replace f18 : xb 18 = _ := f18
            try dsimp only at f18
            replace f19 : xb 19 = _ := f19
            try dsimp only at f19
            replace f20 : xb 20 = _ := f20
            try dsimp only at f20
            obtain ⟨g21, f21, l21, b21⟩ := f21
            replace f21 : xb 21 = _ := f21
            obtain ⟨p21, q21⟩ := b21.walk
            replace f22 : xb 22 = _ := f22
            try dsimp only at f22
            replace f23 : xb 23 = _ := f23
            try dsimp only at f23
            replace f24 : xb 24 = _ := f24
            try dsimp only at f24
            replace f25 : xb 25 = _ := f25
            try dsimp only at f25
            change wpList _ _ _ _ (Act.put (Act.put (Act.put (Act.put (Act.put (Act.put (Act.put (Act.put (Act.put (Act.put (Act.put (Act.put (Act.put (Act.put (Act.put (Act.put (Act.put (Act.put (Act.put (Act.put (Act.put (Act.put (Act.put (Act.put (Act.put (Act.put _ (some 37) (xb 0)) (some 38) (xb 1)) (some 39) (xb 2)) (some 40) (xb 3)) (some 41) (xb 4)) (some 42) (xb 5)) (some 43) (xb 6)) (some 44) (xb 7)) (some 45) (xb 8)) (some 46) (xb 9)) (some 47) (xb 10)) (some 48) (xb 11)) (some 49) (xb 12)) (some 50) (xb 13)) (some 51) (xb 14)) (some 52) (xb 15)) (some 53) (xb 16)) (some 54) (xb 17)) (some 55) (xb 18)) (some 56) (xb 19)) (some 57) (xb 20)) (some 58) (xb 21)) (some 59) (xb 22)) (some 60) (xb 23)) (some 61) (xb 24)) (some 36) (xb 25)) _
            simp only [putsL, Nat.reduceAdd, List.drop_succ_cons, List.drop_zero, List.drop_nil, Act.put, List.setIfInBounds_toArray, List.set_cons_succ, List.set_cons_zero]
            try simp only [f0, f1, f2, f3, f4, f5, f6, f7, f8, f9, f10, f11, f12, f13, f14, f15, f16, f17, f18, f19, f20, f21, f22, f23, f24, f25]
            clear f0 f1 f2 f3 f4 f5 f6 f7 f8 f9 f10 f11 f12 f13 f14 f15 f16 f17 f18 f19 f20 f22 f23 f24 f25
            clear holdb hapb
            clear p2 q2 hb1 hb2 hX hX2 c0 c1 c2 d0 d1
            go_wp2
            first
              | (go_ret
                 exact ⟨ret_int (by rw [hF.out, if_neg h12]; exact scan_is hz hlt (by rw [hv.out, hk1, hk2, hk3, hk4, hlc]; simp) (by decide)), he2.trans ((Ext.refl _).drew.trans herb)⟩)
              | (go_roundw
                 case rel => exact ⟨j + 1 + 1, by omega, by go_num, hz.succ (by rw [hv.out, hk1, hk2, hk3, hk4, hlc]; simp), he2.trans ((Ext.refl _).drew.trans herb)⟩
                 case measure => simp [intOf]; omega)
      · go_wp2
        go_ret
        exact ⟨ret_int (by rw [hF.out, if_neg h12]; exact (scan_zero (by rw [show n = k by omega]; exact hz)).symm), he⟩

set_option maxRecDepth 100000 in
set_option maxHeartbeats 1600000 in
theorem faultLegs_any (p : Option Addr) (n c : Nat) (xs : List LegV) (w : World) (h : Sl 3 legC w p n xs) (hs : ∀ x ∈ xs, x.Small) (hn : n ≤ 1000) :
    Calls Tryd.prog 8 #[.slice p n c] w fun e w' => e = .returned (.int .i64 (legsF xs)) ∧ Ext w w' := by
  have hl := h.1
  have hF : legsF xs = if 400 < n then 2 else scanF n (chkLeg xs) := by unfold legsF; rw [hl]
  replace hF := Lib.hid hF
  by_cases h12 : 400 < n
  · clear h hl hs
    go_enter Tryd.func8, Tryd.ntmps8
    go_wp2
    go_ret
    exact ⟨ret_int (by rw [hF.out, if_pos h12]), Ext.refl _⟩
  by_cases h0 : n = 0
  · subst h0
    clear h hs
    go_enter Tryd.func8, Tryd.ntmps8
    go_wp2
    refine wp_loop_rounds 1 ?_
    rw [rounds_succ]
    go_wp2
    go_ret
    exact ⟨ret_int (by rw [hF.out]; rfl), Ext.refl _⟩
  · obtain ⟨b, off, rfl, hb, hE⟩ := h.2.2 h0
    clear h
    replace hl := Lib.hid hl
    replace h0 := Lib.hid h0
    have hd : decide (400 < (n : Int)) = false := by simp; omega
    go_enter Tryd.func8, Tryd.ntmps8
    go_wp2
    go_loopw [10] (fun i w' => ∃ k : Nat, k ≤ n ∧ i = .int .i64 k ∧ Zeros (chkLeg xs) k ∧ Ext w w') (fun i _ => n - (intOf i).toNat)
    case atStart => exact ⟨0, Nat.zero_le _, rfl, (fun j hj => by omega), Ext.refl _⟩
    case round =>
      obtain ⟨k, hk, rfl, hz, he⟩ := hrel
      have hbw := Nat.lt_of_lt_of_le hb he.size
      by_cases hlt : k < n
      · obtain ⟨x, hx⟩ := getD_some hl.out hlt
        obtain ⟨s1, s2, s3, s4⟩ := hs x (List.mem_of_getElem? hx)
        obtain ⟨c0, c1, c2⟩ := (hE.ext he hb).leg hx
        have hv : chkLeg xs k = if keyB x.fr && keyB x.to then (if x.fr.toList == x.to.toList then 3 else if inB x.m 1 100000000 then (if 0 < k && decide (0 ≤ legC_ (atL default xs (k - 1)) x) then 7 else 0) else 1) else 5 := by
          unfold chkLeg; rw [atL_of hx]
        have hprev : ∀ j y, k = j + 1 → xs[j]? = some y → (∀ i, i < y.fr.size + 1 → True) ∧ wr.cell? ⟨b, off + j * 3, none⟩ = some (.string y.fr) ∧ wr.cell? ⟨b, off + j * 3 + 1, none⟩ = some (.string y.to) := fun j y _ hy => ⟨fun _ _ => trivial, ((hE.ext he hb).leg hy).1, ((hE.ext he hb).leg hy).2.1⟩
        replace hx := Lib.hid hx
        replace hv := Lib.hid hv
        replace hprev := Lib.hid hprev
        have hX := Blk.new' (w := wr) (t := 37) (cs := #[.string x.fr, .string x.to, .int .i64 x.m]) rfl
        replace hX := Lib.hid hX
        replace hs := Lib.hid hs
        cases hk1 : keyB x.fr
        · go_wp2_with (go_at_call 30; (with_reducible refine Calls.mono (key_is hk1 (by omega) _) ?_); rintro e w1 ⟨rfl, hb1⟩; obtain ⟨p1, q1⟩ := (hX.out.ext hb1).walk; have lt1 := (hX.out.ext hb1).lt)
          go_ret
          exact ⟨ret_int (by rw [hF.out, if_neg h12]; exact scan_is hz hlt (by rw [hv.out, hk1]; rfl) (by decide)), (he.alloc _).trans hb1⟩
        cases hk2 : keyB x.to
        · go_wp2_with (first
            | (go_at_call 30; (with_reducible refine Calls.mono (key_is hk1 (by omega) _) ?_); rintro e w1 ⟨rfl, hb1⟩; obtain ⟨p1, q1⟩ := (hX.out.ext hb1).walk; have lt1 := (hX.out.ext hb1).lt)
            | (go_at_call 30; (with_reducible refine Calls.mono (key_is hk2 (by omega) _) ?_); rintro e w2 ⟨rfl, hb2⟩; clear p1 q1; obtain ⟨p2, q2⟩ := ((hX.out.ext hb1).ext hb2).walk; have lt2 := ((hX.out.ext hb1).ext hb2).lt))
          go_ret
          exact ⟨ret_int (by rw [hF.out, if_neg h12]; exact scan_is hz hlt (by rw [hv.out, hk1, hk2]; rfl) (by decide)), ((he.alloc _).trans hb1).trans hb2⟩
        cases hk3 : (x.fr.toList == x.to.toList)
        case true =>
          go_wp2_with (first
            | (go_at_call 30; (with_reducible refine Calls.mono (key_is hk1 (by omega) _) ?_); rintro e w1 ⟨rfl, hb1⟩; obtain ⟨p1, q1⟩ := (hX.out.ext hb1).walk; have lt1 := (hX.out.ext hb1).lt)
            | (go_at_call 30; (with_reducible refine Calls.mono (key_is hk2 (by omega) _) ?_); rintro e w2 ⟨rfl, hb2⟩; clear p1 q1; obtain ⟨p2, q2⟩ := ((hX.out.ext hb1).ext hb2).walk; have lt2 := ((hX.out.ext hb1).ext hb2).lt))
          go_ret
          exact ⟨ret_int (by rw [hF.out, if_neg h12]; exact scan_is hz hlt (by rw [hv.out, hk1, hk2, hk3]; rfl) (by decide)), ((he.alloc _).trans hb1).trans hb2⟩
        cases hk4 : inB x.m 1 100000000
        · have hk4' : outB x.m 1 100000000 = true := by rw [outB_inB, hk4]; rfl
          go_wp2_with (first
            | (go_at_call 30; (with_reducible refine Calls.mono (key_is hk1 (by omega) _) ?_); rintro e w1 ⟨rfl, hb1⟩; obtain ⟨p1, q1⟩ := (hX.out.ext hb1).walk; have lt1 := (hX.out.ext hb1).lt)
            | (go_at_call 30; (with_reducible refine Calls.mono (key_is hk2 (by omega) _) ?_); rintro e w2 ⟨rfl, hb2⟩; clear p1 q1; obtain ⟨p2, q2⟩ := ((hX.out.ext hb1).ext hb2).walk; have lt2 := ((hX.out.ext hb1).ext hb2).lt)
            | (go_at_call 31; (with_reducible refine Calls.mono (in_any _ _ _ _) ?_); rintro e w4 ⟨rfl, rfl⟩))
          go_ret
          exact ⟨ret_int (by rw [hF.out, if_neg h12]; exact scan_is hz hlt (by rw [hv.out, hk1, hk2, hk3, hk4]; rfl) (by decide)), ((he.alloc _).trans hb1).trans hb2⟩
        have hk4' : outB x.m 1 100000000 = false := by rw [outB_inB, hk4]; rfl
        go_upto_region 12 with (first
            | (go_at_call 30; (with_reducible refine Calls.mono (key_is hk1 (by omega) _) ?_); rintro e w1 ⟨rfl, hb1⟩; obtain ⟨p1, q1⟩ := (hX.out.ext hb1).walk; have lt1 := (hX.out.ext hb1).lt)
            | (go_at_call 30; (with_reducible refine Calls.mono (key_is hk2 (by omega) _) ?_); rintro e w2 ⟨rfl, hb2⟩; clear p1 q1; obtain ⟨p2, q2⟩ := ((hX.out.ext hb1).ext hb2).walk; have lt2 := ((hX.out.ext hb1).ext hb2).lt)
            | (go_at_call 31; (with_reducible refine Calls.mono (in_any _ _ _ _) ?_); rintro e w4 ⟨rfl, rfl⟩))
        have hX2 := (hX.out.ext hb1).ext hb2
        have he2 : Ext w w2 := ((he.alloc _).trans hb1).trans hb2
        have hbk : Ext wr w2 := (((Ext.refl wr).alloc _).trans hb1).trans hb2
        rcases Nat.eq_zero_or_pos k with hk0 | hk0
        · subst hk0
          have hz0 : ((0 : Nat) : Int) = 0 := rfl
          refine wp_region_facts [] [([], false, false), ([0], false, false), ([0, 1], false, false), ([0, 1, 2], false, false), ([0, 1, 2], false, false), ([0, 1, 2, 4], false, false), ([0, 1, 2, 3, 4, 5], false, false), ([0, 1, 2, 3, 4, 5, 6], false, false), ([0, 1, 2, 3, 4, 5, 6, 7], false, false), ([0, 1, 2], false, false), ([0, 1, 2, 9], false, false), ([0, 1, 2, 3, 4, 5, 6, 7, 8, 9, 10], false, false), ([0, 1, 2], false, false), ([0, 1, 2], false, false), ([0, 1, 2, 13], false, false), ([0, 1, 2, 12, 13, 14], false, false), ([0, 1, 2, 12, 13, 14, 15], false, false), ([0, 1, 2, 12, 13, 14, 15, 16], false, false), ([0, 1, 2], false, false), ([0, 1, 2, 18], false, false), ([0, 1, 2, 12, 13, 14, 15, 16, 17, 18, 19], false, false), ([0, 1, 2, 3, 4, 5, 6, 7, 8, 9, 10, 11, 12, 13, 14, 15, 16, 17, 18, 19, 20], false, false), ([0, 1, 2, 3, 4, 5, 6, 7, 8, 9, 10, 11, 12, 13, 14, 15, 16, 17, 18, 19, 20, 21], false, false), ([0, 1, 2, 3, 4, 5, 6, 7, 8, 9, 10, 11, 12, 13, 14, 15, 16, 17, 18, 19, 20, 21, 22], false, false), ([0, 1, 2, 3, 4, 5, 6, 7, 8, 9, 10, 11, 12, 13, 14, 15, 16, 17, 18, 19, 20, 21, 22, 23], false, false), ([0, 1, 2, 3, 4, 5, 6, 7, 8, 9, 10, 11, 12, 13, 14, 15, 16, 17, 18, 19, 20, 21, 22, 23, 24], false, false)] (Ext) Ext (fun _ => True) (by kernel_rfl) (by kernel_rfl) Ext.refl (fun _ _ _ => Ext.trans) (fun _ _ h => h) (fun _ _ h => h.size) (fun _ _ h _ => h) trivial ?_
          dsimp only [List.length_cons, List.length_nil, List.drop_succ_cons, List.drop_zero, List.drop_nil]
          refine fac_quiet 0 rfl rfl rfl (fun _ _ h _ => h) rfl rfl ?_
          apply Exists.intro
          refine ⟨fun sv w' hw' hfa => ?_, ?_⟩
          · skip
            refine ⟨rfl, ?_⟩
            simp only [putsL]
            change quietTo _ _ _ _ (Sem.run _ (execOp (Act.eval _) _) _)
            try simp only [Act.put, List.setIfInBounds_toArray, List.set_cons_succ, List.set_cons_zero]
            simp [go_sem, quietTo, Ext.refl]
            all_goals try simp (disch := omega) only [IntWalk.i64_in]
            all_goals first
              | rfl
          refine fac_quiet 1 rfl rfl rfl (fun _ _ h _ => h) rfl rfl ?_
          apply Exists.intro
          refine ⟨fun sv w' hw' hfa => ?_, ?_⟩
          · obtain ⟨f0, -⟩ := hfa
            replace f0 : sv 0 = _ := f0
            try dsimp only at f0
            skip
            refine ⟨rfl, ?_⟩
            simp only [putsL]
            change quietTo _ _ _ _ (Sem.run _ (execOp (Act.eval (Act.put _ (some 38) (sv 0))) _) _)
            try simp only [Act.put, List.setIfInBounds_toArray, List.set_cons_succ, List.set_cons_zero]
            simp [go_sem, quietTo, Ext.refl, ↓IntWalk.iteOmega, f0, hz0]
            all_goals try simp (disch := omega) only [IntWalk.i64_in]
            all_goals first
              | rfl
          refine fac_quiet 2 rfl rfl rfl (fun _ _ h _ => h) rfl rfl ?_
          apply Exists.intro
          refine ⟨fun sv w' hw' hfa => ?_, ?_⟩
          · obtain ⟨f0, f1, -⟩ := hfa
            replace f0 : sv 0 = _ := f0
            try dsimp only at f0
            replace f1 : sv 1 = _ := f1
            try dsimp only at f1
            skip
            refine ⟨rfl, ?_⟩
            simp only [putsL]
            change quietTo _ _ _ _ (Sem.run _ (execOp (Act.eval (Act.put (Act.put _ (some 39) (sv 1)) (some 38) (sv 0))) _) _)
            try simp only [Act.put, List.setIfInBounds_toArray, List.set_cons_succ, List.set_cons_zero]
            simp [go_sem, quietTo, Ext.refl, f1]
            all_goals try simp (disch := omega) only [IntWalk.i64_in]
            all_goals first
              | rfl
          refine fac_skip 3 rfl rfl rfl (fun _ _ h _ => h) Ext.refl ?_ ?_
          · intro sv w' hw' hfa
            obtain ⟨f0, f1, f2, -⟩ := hfa
            replace f0 : sv 0 = _ := f0
            try dsimp only at f0
            replace f1 : sv 1 = _ := f1
            try dsimp only at f1
            replace f2 : sv 2 = _ := f2
            try dsimp only at f2
            simp [Region.wanted, yielded, putsL, Act.put, f2]
          refine fac_skip 4 rfl rfl rfl (fun _ _ h _ => h) Ext.refl ?_ ?_
          · intro sv w' hw' hfa
            obtain ⟨f0, f1, f2, -⟩ := hfa
            replace f0 : sv 0 = _ := f0
            try dsimp only at f0
            replace f1 : sv 1 = _ := f1
            try dsimp only at f1
            replace f2 : sv 2 = _ := f2
            try dsimp only at f2
            simp [Region.wanted, yielded, putsL, Act.put, f2]
          refine fac_skip 5 rfl rfl rfl (fun _ _ h _ => h) Ext.refl ?_ ?_
          · intro sv w' hw' hfa
            obtain ⟨f0, f1, f2, f4, -⟩ := hfa
            replace f0 : sv 0 = _ := f0
            try dsimp only at f0
            replace f1 : sv 1 = _ := f1
            try dsimp only at f1
            replace f2 : sv 2 = _ := f2
            try dsimp only at f2
            replace f4 : sv 4 = _ := f4
            try dsimp only at f4
            simp [Region.wanted, yielded, putsL, Act.put, f2, f4]
          refine fac_skip 6 rfl rfl rfl (fun _ _ h _ => h) Ext.refl ?_ ?_
          · intro sv w' hw' hfa
            obtain ⟨f0, f1, f2, f3, f4, f5, -⟩ := hfa
            replace f0 : sv 0 = _ := f0
            try dsimp only at f0
            replace f1 : sv 1 = _ := f1
            try dsimp only at f1
            replace f2 : sv 2 = _ := f2
            try dsimp only at f2
            replace f3 : sv 3 = _ := f3
            try dsimp only at f3
            replace f4 : sv 4 = _ := f4
            try dsimp only at f4
            replace f5 : sv 5 = _ := f5
            try dsimp only at f5
            simp [Region.wanted, yielded, putsL, Act.put, f2, f3, f5]
          refine fac_skip 7 rfl rfl rfl (fun _ _ h _ => h) Ext.refl ?_ ?_
          · intro sv w' hw' hfa
            obtain ⟨f0, f1, f2, f3, f4, f5, f6, -⟩ := hfa
            replace f0 : sv 0 = _ := f0
            try dsimp only at f0
            replace f1 : sv 1 = _ := f1
            try dsimp only at f1
            replace f2 : sv 2 = _ := f2
            try dsimp only at f2
            replace f3 : sv 3 = _ := f3
            try dsimp only at f3
            replace f4 : sv 4 = _ := f4
            try dsimp only at f4
            replace f5 : sv 5 = _ := f5
            try dsimp only at f5
            replace f6 : sv 6 = _ := f6
            try dsimp only at f6
            simp [Region.wanted, yielded, putsL, Act.put, f2, f6]
          refine fac_skip 8 rfl rfl rfl (fun _ _ h _ => h) Ext.refl ?_ ?_
          · intro sv w' hw' hfa
            obtain ⟨f0, f1, f2, f3, f4, f5, f6, f7, -⟩ := hfa
            replace f0 : sv 0 = _ := f0
            try dsimp only at f0
            replace f1 : sv 1 = _ := f1
            try dsimp only at f1
            replace f2 : sv 2 = _ := f2
            try dsimp only at f2
            replace f3 : sv 3 = _ := f3
            try dsimp only at f3
            replace f4 : sv 4 = _ := f4
            try dsimp only at f4
            replace f5 : sv 5 = _ := f5
            try dsimp only at f5
            replace f6 : sv 6 = _ := f6
            try dsimp only at f6
            replace f7 : sv 7 = _ := f7
            try dsimp only at f7
            simp [Region.wanted, yielded, putsL, Act.put, f2, f7]
          refine fac_skip 9 rfl rfl rfl (fun _ _ h _ => h) Ext.refl ?_ ?_
          · intro sv w' hw' hfa
            obtain ⟨f0, f1, f2, -⟩ := hfa
            replace f0 : sv 0 = _ := f0
            try dsimp only at f0
            replace f1 : sv 1 = _ := f1
            try dsimp only at f1
            replace f2 : sv 2 = _ := f2
            try dsimp only at f2
            simp [Region.wanted, yielded, putsL, Act.put, f2]
          refine fac_skip 10 rfl rfl rfl (fun _ _ h _ => h) Ext.refl ?_ ?_
          · intro sv w' hw' hfa
            obtain ⟨f0, f1, f2, f9, -⟩ := hfa
            replace f0 : sv 0 = _ := f0
            try dsimp only at f0
            replace f1 : sv 1 = _ := f1
            try dsimp only at f1
            replace f2 : sv 2 = _ := f2
            try dsimp only at f2
            replace f9 : sv 9 = _ := f9
            try dsimp only at f9
            simp [Region.wanted, yielded, putsL, Act.put, f2, f9]
          refine fac_skip 11 rfl rfl rfl (fun _ _ h _ => h) Ext.refl ?_ ?_
          · intro sv w' hw' hfa
            obtain ⟨f0, f1, f2, f3, f4, f5, f6, f7, f8, f9, f10, -⟩ := hfa
            replace f0 : sv 0 = _ := f0
            try dsimp only at f0
            replace f1 : sv 1 = _ := f1
            try dsimp only at f1
            replace f2 : sv 2 = _ := f2
            try dsimp only at f2
            replace f3 : sv 3 = _ := f3
            try dsimp only at f3
            replace f4 : sv 4 = _ := f4
            try dsimp only at f4
            replace f5 : sv 5 = _ := f5
            try dsimp only at f5
            replace f6 : sv 6 = _ := f6
            try dsimp only at f6
            replace f7 : sv 7 = _ := f7
            try dsimp only at f7
            replace f8 : sv 8 = _ := f8
            try dsimp only at f8
            replace f9 : sv 9 = _ := f9
            try dsimp only at f9
            replace f10 : sv 10 = _ := f10
            try dsimp only at f10
            simp [Region.wanted, yielded, putsL, Act.put, f2, f8, f10]
          refine fac_skip 12 rfl rfl rfl (fun _ _ h _ => h) Ext.refl ?_ ?_
          · intro sv w' hw' hfa
            obtain ⟨f0, f1, f2, -⟩ := hfa
            replace f0 : sv 0 = _ := f0
            try dsimp only at f0
            replace f1 : sv 1 = _ := f1
            try dsimp only at f1
            replace f2 : sv 2 = _ := f2
            try dsimp only at f2
            simp [Region.wanted, yielded, putsL, Act.put, f2]
          refine fac_skip 13 rfl rfl rfl (fun _ _ h _ => h) Ext.refl ?_ ?_
          · intro sv w' hw' hfa
            obtain ⟨f0, f1, f2, -⟩ := hfa
            replace f0 : sv 0 = _ := f0
            try dsimp only at f0
            replace f1 : sv 1 = _ := f1
            try dsimp only at f1
            replace f2 : sv 2 = _ := f2
            try dsimp only at f2
            simp [Region.wanted, yielded, putsL, Act.put, f2]
          refine fac_skip 14 rfl rfl rfl (fun _ _ h _ => h) Ext.refl ?_ ?_
          · intro sv w' hw' hfa
            obtain ⟨f0, f1, f2, f13, -⟩ := hfa
            replace f0 : sv 0 = _ := f0
            try dsimp only at f0
            replace f1 : sv 1 = _ := f1
            try dsimp only at f1
            replace f2 : sv 2 = _ := f2
            try dsimp only at f2
            replace f13 : sv 13 = _ := f13
            try dsimp only at f13
            simp [Region.wanted, yielded, putsL, Act.put, f2, f13]
          refine fac_skip 15 rfl rfl rfl (fun _ _ h _ => h) Ext.refl ?_ ?_
          · intro sv w' hw' hfa
            obtain ⟨f0, f1, f2, f12, f13, f14, -⟩ := hfa
            replace f0 : sv 0 = _ := f0
            try dsimp only at f0
            replace f1 : sv 1 = _ := f1
            try dsimp only at f1
            replace f2 : sv 2 = _ := f2
            try dsimp only at f2
            replace f12 : sv 12 = _ := f12
            try dsimp only at f12
            replace f13 : sv 13 = _ := f13
            try dsimp only at f13
            replace f14 : sv 14 = _ := f14
            try dsimp only at f14
            simp [Region.wanted, yielded, putsL, Act.put, f2, f12, f14]
          refine fac_skip 16 rfl rfl rfl (fun _ _ h _ => h) Ext.refl ?_ ?_
          · intro sv w' hw' hfa
            obtain ⟨f0, f1, f2, f12, f13, f14, f15, -⟩ := hfa
            replace f0 : sv 0 = _ := f0
            try dsimp only at f0
            replace f1 : sv 1 = _ := f1
            try dsimp only at f1
            replace f2 : sv 2 = _ := f2
            try dsimp only at f2
            replace f12 : sv 12 = _ := f12
            try dsimp only at f12
            replace f13 : sv 13 = _ := f13
            try dsimp only at f13
            replace f14 : sv 14 = _ := f14
            try dsimp only at f14
            replace f15 : sv 15 = _ := f15
            try dsimp only at f15
            simp [Region.wanted, yielded, putsL, Act.put, f2, f15]
          refine fac_skip 17 rfl rfl rfl (fun _ _ h _ => h) Ext.refl ?_ ?_
          · intro sv w' hw' hfa
            obtain ⟨f0, f1, f2, f12, f13, f14, f15, f16, -⟩ := hfa
            replace f0 : sv 0 = _ := f0
            try dsimp only at f0
            replace f1 : sv 1 = _ := f1
            try dsimp only at f1
            replace f2 : sv 2 = _ := f2
            try dsimp only at f2
            replace f12 : sv 12 = _ := f12
            try dsimp only at f12
            replace f13 : sv 13 = _ := f13
            try dsimp only at f13
            replace f14 : sv 14 = _ := f14
            try dsimp only at f14
            replace f15 : sv 15 = _ := f15
            try dsimp only at f15
            replace f16 : sv 16 = _ := f16
            try dsimp only at f16
            simp [Region.wanted, yielded, putsL, Act.put, f2, f16]
          refine fac_skip 18 rfl rfl rfl (fun _ _ h _ => h) Ext.refl ?_ ?_
          · intro sv w' hw' hfa
            obtain ⟨f0, f1, f2, -⟩ := hfa
            replace f0 : sv 0 = _ := f0
            try dsimp only at f0
            replace f1 : sv 1 = _ := f1
            try dsimp only at f1
            replace f2 : sv 2 = _ := f2
            try dsimp only at f2
            simp [Region.wanted, yielded, putsL, Act.put, f2]
          refine fac_skip 19 rfl rfl rfl (fun _ _ h _ => h) Ext.refl ?_ ?_
          · intro sv w' hw' hfa
            obtain ⟨f0, f1, f2, f18, -⟩ := hfa
            replace f0 : sv 0 = _ := f0
            try dsimp only at f0
            replace f1 : sv 1 = _ := f1
            try dsimp only at f1
            replace f2 : sv 2 = _ := f2
            try dsimp only at f2
            replace f18 : sv 18 = _ := f18
            try dsimp only at f18
            simp [Region.wanted, yielded, putsL, Act.put, f2, f18]
          refine fac_skip 20 rfl rfl rfl (fun _ _ h _ => h) Ext.refl ?_ ?_
          · intro sv w' hw' hfa
            obtain ⟨f0, f1, f2, f12, f13, f14, f15, f16, f17, f18, f19, -⟩ := hfa
            replace f0 : sv 0 = _ := f0
            try dsimp only at f0
            replace f1 : sv 1 = _ := f1
            try dsimp only at f1
            replace f2 : sv 2 = _ := f2
            try dsimp only at f2
            replace f12 : sv 12 = _ := f12
            try dsimp only at f12
            replace f13 : sv 13 = _ := f13
            try dsimp only at f13
            replace f14 : sv 14 = _ := f14
            try dsimp only at f14
            replace f15 : sv 15 = _ := f15
            try dsimp only at f15
            replace f16 : sv 16 = _ := f16
            try dsimp only at f16
            replace f17 : sv 17 = _ := f17
            try dsimp only at f17
            replace f18 : sv 18 = _ := f18
            try dsimp only at f18
            replace f19 : sv 19 = _ := f19
            try dsimp only at f19
            simp [Region.wanted, yielded, putsL, Act.put, f2, f17, f19]
          refine fac_skip 21 rfl rfl rfl (fun _ _ h _ => h) Ext.refl ?_ ?_
          · intro sv w' hw' hfa
            obtain ⟨f0, f1, f2, f3, f4, f5, f6, f7, f8, f9, f10, f11, f12, f13, f14, f15, f16, f17, f18, f19, f20, -⟩ := hfa
            replace f0 : sv 0 = _ := f0
            try dsimp only at f0
            replace f1 : sv 1 = _ := f1
            try dsimp only at f1
            replace f2 : sv 2 = _ := f2
            try dsimp only at f2
            replace f3 : sv 3 = _ := f3
            try dsimp only at f3
            replace f4 : sv 4 = _ := f4
            try dsimp only at f4
            replace f5 : sv 5 = _ := f5
            try dsimp only at f5
            replace f6 : sv 6 = _ := f6
            try dsimp only at f6
            replace f7 : sv 7 = _ := f7
            try dsimp only at f7
            replace f8 : sv 8 = _ := f8
            try dsimp only at f8
            replace f9 : sv 9 = _ := f9
            try dsimp only at f9
            replace f10 : sv 10 = _ := f10
            try dsimp only at f10
            replace f11 : sv 11 = _ := f11
            try dsimp only at f11
            replace f12 : sv 12 = _ := f12
            try dsimp only at f12
            replace f13 : sv 13 = _ := f13
            try dsimp only at f13
            replace f14 : sv 14 = _ := f14
            try dsimp only at f14
            replace f15 : sv 15 = _ := f15
            try dsimp only at f15
            replace f16 : sv 16 = _ := f16
            try dsimp only at f16
            replace f17 : sv 17 = _ := f17
            try dsimp only at f17
            replace f18 : sv 18 = _ := f18
            try dsimp only at f18
            replace f19 : sv 19 = _ := f19
            try dsimp only at f19
            replace f20 : sv 20 = _ := f20
            try dsimp only at f20
            simp [Region.wanted, yielded, putsL, Act.put, f2, f11, f20]
          refine fac_skip 22 rfl rfl rfl (fun _ _ h _ => h) Ext.refl ?_ ?_
          · intro sv w' hw' hfa
            obtain ⟨f0, f1, f2, f3, f4, f5, f6, f7, f8, f9, f10, f11, f12, f13, f14, f15, f16, f17, f18, f19, f20, f21, -⟩ := hfa
            replace f0 : sv 0 = _ := f0
            try dsimp only at f0
            replace f1 : sv 1 = _ := f1
            try dsimp only at f1
            replace f2 : sv 2 = _ := f2
            try dsimp only at f2
            replace f3 : sv 3 = _ := f3
            try dsimp only at f3
            replace f4 : sv 4 = _ := f4
            try dsimp only at f4
            replace f5 : sv 5 = _ := f5
            try dsimp only at f5
            replace f6 : sv 6 = _ := f6
            try dsimp only at f6
            replace f7 : sv 7 = _ := f7
            try dsimp only at f7
            replace f8 : sv 8 = _ := f8
            try dsimp only at f8
            replace f9 : sv 9 = _ := f9
            try dsimp only at f9
            replace f10 : sv 10 = _ := f10
            try dsimp only at f10
            replace f11 : sv 11 = _ := f11
            try dsimp only at f11
            replace f12 : sv 12 = _ := f12
            try dsimp only at f12
            replace f13 : sv 13 = _ := f13
            try dsimp only at f13
            replace f14 : sv 14 = _ := f14
            try dsimp only at f14
            replace f15 : sv 15 = _ := f15
            try dsimp only at f15
            replace f16 : sv 16 = _ := f16
            try dsimp only at f16
            replace f17 : sv 17 = _ := f17
            try dsimp only at f17
            replace f18 : sv 18 = _ := f18
            try dsimp only at f18
            replace f19 : sv 19 = _ := f19
            try dsimp only at f19
            replace f20 : sv 20 = _ := f20
            try dsimp only at f20
            replace f21 : sv 21 = _ := f21
            try dsimp only at f21
            simp [Region.wanted, yielded, putsL, Act.put, f2, f21]
          refine fac_skip 23 rfl rfl rfl (fun _ _ h _ => h) Ext.refl ?_ ?_
          · intro sv w' hw' hfa
            obtain ⟨f0, f1, f2, f3, f4, f5, f6, f7, f8, f9, f10, f11, f12, f13, f14, f15, f16, f17, f18, f19, f20, f21, f22, -⟩ := hfa
            replace f0 : sv 0 = _ := f0
            try dsimp only at f0
            replace f1 : sv 1 = _ := f1
            try dsimp only at f1
            replace f2 : sv 2 = _ := f2
            try dsimp only at f2
            replace f3 : sv 3 = _ := f3
            try dsimp only at f3
            replace f4 : sv 4 = _ := f4
            try dsimp only at f4
            replace f5 : sv 5 = _ := f5
            try dsimp only at f5
            replace f6 : sv 6 = _ := f6
            try dsimp only at f6
            replace f7 : sv 7 = _ := f7
            try dsimp only at f7
            replace f8 : sv 8 = _ := f8
            try dsimp only at f8
            replace f9 : sv 9 = _ := f9
            try dsimp only at f9
            replace f10 : sv 10 = _ := f10
            try dsimp only at f10
            replace f11 : sv 11 = _ := f11
            try dsimp only at f11
            replace f12 : sv 12 = _ := f12
            try dsimp only at f12
            replace f13 : sv 13 = _ := f13
            try dsimp only at f13
            replace f14 : sv 14 = _ := f14
            try dsimp only at f14
            replace f15 : sv 15 = _ := f15
            try dsimp only at f15
            replace f16 : sv 16 = _ := f16
            try dsimp only at f16
            replace f17 : sv 17 = _ := f17
            try dsimp only at f17
            replace f18 : sv 18 = _ := f18
            try dsimp only at f18
            replace f19 : sv 19 = _ := f19
            try dsimp only at f19
            replace f20 : sv 20 = _ := f20
            try dsimp only at f20
            replace f21 : sv 21 = _ := f21
            try dsimp only at f21
            replace f22 : sv 22 = _ := f22
            try dsimp only at f22
            simp [Region.wanted, yielded, putsL, Act.put, f2, f22]
          refine fac_quiet 24 rfl rfl rfl (fun _ _ h _ => h) rfl rfl ?_
          apply Exists.intro
          refine ⟨fun sv w' hw' hfa => ?_, ?_⟩
          · obtain ⟨f0, f1, f2, f3, f4, f5, f6, f7, f8, f9, f10, f11, f12, f13, f14, f15, f16, f17, f18, f19, f20, f21, f22, f23, -⟩ := hfa
            replace f0 : sv 0 = _ := f0
            try dsimp only at f0
            replace f1 : sv 1 = _ := f1
            try dsimp only at f1
            replace f2 : sv 2 = _ := f2
            try dsimp only at f2
            replace f3 : sv 3 = _ := f3
            try dsimp only at f3
            replace f4 : sv 4 = _ := f4
            try dsimp only at f4
            replace f5 : sv 5 = _ := f5
            try dsimp only at f5
            replace f6 : sv 6 = _ := f6
            try dsimp only at f6
            replace f7 : sv 7 = _ := f7
            try dsimp only at f7
            replace f8 : sv 8 = _ := f8
            try dsimp only at f8
            replace f9 : sv 9 = _ := f9
            try dsimp only at f9
            replace f10 : sv 10 = _ := f10
            try dsimp only at f10
            replace f11 : sv 11 = _ := f11
            try dsimp only at f11
            replace f12 : sv 12 = _ := f12
            try dsimp only at f12
            replace f13 : sv 13 = _ := f13
            try dsimp only at f13
            replace f14 : sv 14 = _ := f14
            try dsimp only at f14
            replace f15 : sv 15 = _ := f15
            try dsimp only at f15
            replace f16 : sv 16 = _ := f16
            try dsimp only at f16
            replace f17 : sv 17 = _ := f17
            try dsimp only at f17
            replace f18 : sv 18 = _ := f18
            try dsimp only at f18
            replace f19 : sv 19 = _ := f19
            try dsimp only at f19
            replace f20 : sv 20 = _ := f20
            try dsimp only at f20
            replace f21 : sv 21 = _ := f21
            try dsimp only at f21
            replace f22 : sv 22 = _ := f22
            try dsimp only at f22
            replace f23 : sv 23 = _ := f23
            try dsimp only at f23
            skip
            refine ⟨rfl, ?_⟩
            simp only [putsL]
            change quietTo _ _ _ _ (Sem.run _ (execOp (Act.eval (Act.put (Act.put (Act.put (Act.put (Act.put (Act.put (Act.put (Act.put (Act.put (Act.put (Act.put (Act.put (Act.put (Act.put (Act.put (Act.put (Act.put (Act.put (Act.put (Act.put (Act.put (Act.put (Act.put (Act.put _ (some 61) (sv 23)) (some 60) (sv 22)) (some 59) (sv 21)) (some 58) (sv 20)) (some 57) (sv 19)) (some 56) (sv 18)) (some 55) (sv 17)) (some 54) (sv 16)) (some 53) (sv 15)) (some 52) (sv 14)) (some 51) (sv 13)) (some 50) (sv 12)) (some 49) (sv 11)) (some 48) (sv 10)) (some 47) (sv 9)) (some 46) (sv 8)) (some 45) (sv 7)) (some 44) (sv 6)) (some 43) (sv 5)) (some 42) (sv 4)) (some 41) (sv 3)) (some 40) (sv 2)) (some 39) (sv 1)) (some 38) (sv 0))) _) _)
            try simp only [Act.put, List.setIfInBounds_toArray, List.set_cons_succ, List.set_cons_zero]
            simp [go_sem, quietTo, Ext.refl, ↓IntWalk.iteOmega, f2, f23, hz0]
            all_goals try simp (disch := omega) only [IntWalk.i64_in]
            all_goals first
              | rfl
          refine fac_quiet 25 rfl rfl rfl (fun _ _ h _ => h) rfl rfl ?_
          apply Exists.intro
          refine ⟨fun sv w' hw' hfa => ?_, ?_⟩
          · obtain ⟨f0, f1, f2, f3, f4, f5, f6, f7, f8, f9, f10, f11, f12, f13, f14, f15, f16, f17, f18, f19, f20, f21, f22, f23, f24, -⟩ := hfa
            replace f0 : sv 0 = _ := f0
            try dsimp only at f0
            replace f1 : sv 1 = _ := f1
            try dsimp only at f1
            replace f2 : sv 2 = _ := f2
            try dsimp only at f2
            replace f3 : sv 3 = _ := f3
            try dsimp only at f3
            replace f4 : sv 4 = _ := f4
            try dsimp only at f4
            replace f5 : sv 5 = _ := f5
            try dsimp only at f5
            replace f6 : sv 6 = _ := f6
            try dsimp only at f6
            replace f7 : sv 7 = _ := f7
            try dsimp only at f7
            replace f8 : sv 8 = _ := f8
            try dsimp only at f8
            replace f9 : sv 9 = _ := f9
            try dsimp only at f9
            replace f10 : sv 10 = _ := f10
            try dsimp only at f10
            replace f11 : sv 11 = _ := f11
            try dsimp only at f11
            replace f12 : sv 12 = _ := f12
            try dsimp only at f12
            replace f13 : sv 13 = _ := f13
            try dsimp only at f13
            replace f14 : sv 14 = _ := f14
            try dsimp only at f14
            replace f15 : sv 15 = _ := f15
            try dsimp only at f15
            replace f16 : sv 16 = _ := f16
            try dsimp only at f16
            replace f17 : sv 17 = _ := f17
            try dsimp only at f17
            replace f18 : sv 18 = _ := f18
            try dsimp only at f18
            replace f19 : sv 19 = _ := f19
            try dsimp only at f19
            replace f20 : sv 20 = _ := f20
            try dsimp only at f20
            replace f21 : sv 21 = _ := f21
            try dsimp only at f21
            replace f22 : sv 22 = _ := f22
            try dsimp only at f22
            replace f23 : sv 23 = _ := f23
            try dsimp only at f23
            replace f24 : sv 24 = _ := f24
            try dsimp only at f24
            skip
            refine ⟨rfl, ?_⟩
            simp only [putsL]
            change quietTo _ _ _ _ (Sem.run _ (execOp (Act.eval (Act.put (Act.put (Act.put (Act.put (Act.put (Act.put (Act.put (Act.put (Act.put (Act.put (Act.put (Act.put (Act.put (Act.put (Act.put (Act.put (Act.put (Act.put (Act.put (Act.put (Act.put (Act.put (Act.put (Act.put (Act.put _ (some 62) (sv 24)) (some 61) (sv 23)) (some 60) (sv 22)) (some 59) (sv 21)) (some 58) (sv 20)) (some 57) (sv 19)) (some 56) (sv 18)) (some 55) (sv 17)) (some 54) (sv 16)) (some 53) (sv 15)) (some 52) (sv 14)) (some 51) (sv 13)) (some 50) (sv 12)) (some 49) (sv 11)) (some 48) (sv 10)) (some 47) (sv 9)) (some 46) (sv 8)) (some 45) (sv 7)) (some 44) (sv 6)) (some 43) (sv 5)) (some 42) (sv 4)) (some 41) (sv 3)) (some 40) (sv 2)) (some 39) (sv 1)) (some 38) (sv 0))) _) _)
            try simp only [Act.put, List.setIfInBounds_toArray, List.set_cons_succ, List.set_cons_zero]
            simp [go_sem, quietTo, Ext.refl, f24]
            all_goals try simp (disch := omega) only [IntWalk.i64_in]
            all_goals first
              | rfl
          refine fac_nil fun xa wra hera hfra hcra holda hapa => ?_
          obtain ⟨f0, f1, f2, f3, f4, f5, f6, f7, f8, f9, f10, f11, f12, f13, f14, f15, f16, f17, f18, f19, f20, f21, f22, f23, f24, f25, -⟩ := hfra
          replace f0 : xa 0 = _ := f0
          try dsimp only at f0
          replace f1 : xa 1 = _ := f1
          try dsimp only at f1
          replace f2 : xa 2 = _ := f2
          try dsimp only at f2
          replace f3 : xa 3 = _ := f3
          try dsimp only at f3
          replace f4 : xa 4 = _ := f4
          try dsimp only at f4
          replace f5 : xa 5 = _ := f5
          try dsimp only at f5
          replace f6 : xa 6 = _ := f6
          try dsimp only at f6
          replace f7 : xa 7 = _ := f7
          try dsimp only at f7
          replace f8 : xa 8 = _ := f8
          try dsimp only at f8
          replace f9 : xa 9 = _ := f9
          try dsimp only at f9
          replace f10 : xa 10 = _ := f10
          try dsimp only at f10
          replace f11 : xa 11 = _ := f11
          try dsimp only at f11
          replace f12 : xa 12 = _ := f12
          try dsimp only at f12
          replace f13 : xa 13 = _ := f13
          try dsimp only at f13
          replace f14 : xa 14 = _ := f14
          try dsimp only at f14
          replace f15 : xa 15 = _ := f15
          try dsimp only at f15
          replace f16 : xa 16 = _ := f16
          try dsimp only at f16
          replace f17 : xa 17 = _ := f17
          try dsimp only at f17
          replace f18 : xa 18 = _ := f18
          try dsimp only at f18
          replace f19 : xa 19 = _ := f19
          try dsimp only at f19
          replace f20 : xa 20 = _ := f20
          try dsimp only at f20
          replace f21 : xa 21 = _ := f21
          try dsimp only at f21
          replace f22 : xa 22 = _ := f22
          try dsimp only at f22
          replace f23 : xa 23 = _ := f23
          try dsimp only at f23
          replace f24 : xa 24 = _ := f24
          try dsimp only at f24
          replace f25 : xa 25 = _ := f25
          try dsimp only at f25
          change wpList _ _ _ _ (Act.put (Act.put (Act.put (Act.put (Act.put (Act.put (Act.put (Act.put (Act.put (Act.put (Act.put (Act.put (Act.put (Act.put (Act.put (Act.put (Act.put (Act.put (Act.put (Act.put (Act.put (Act.put (Act.put (Act.put (Act.put (Act.put _ (some 38) (xa 0)) (some 39) (xa 1)) (some 40) (xa 2)) (some 41) (xa 3)) (some 42) (xa 4)) (some 43) (xa 5)) (some 44) (xa 6)) (some 45) (xa 7)) (some 46) (xa 8)) (some 47) (xa 9)) (some 48) (xa 10)) (some 49) (xa 11)) (some 50) (xa 12)) (some 51) (xa 13)) (some 52) (xa 14)) (some 53) (xa 15)) (some 54) (xa 16)) (some 55) (xa 17)) (some 56) (xa 18)) (some 57) (xa 19)) (some 58) (xa 20)) (some 59) (xa 21)) (some 60) (xa 22)) (some 61) (xa 23)) (some 62) (xa 24)) (some 37) (xa 25)) _
          simp only [putsL, Nat.reduceAdd, List.drop_succ_cons, List.drop_zero, List.drop_nil, Act.put, List.setIfInBounds_toArray, List.set_cons_succ, List.set_cons_zero]
          try simp only [f0, f1, f2, f3, f4, f5, f6, f7, f8, f9, f10, f11, f12, f13, f14, f15, f16, f17, f18, f19, f20, f21, f22, f23, f24, f25]
          clear f0 f1 f2 f3 f4 f5 f6 f7 f8 f9 f10 f11 f12 f13 f14 f15 f16 f17 f18 f19 f20 f21 f22 f23 f24 f25
          clear holda hapa
          clear p2 q2 hb1 hb2 hX hX2 hprev c0 c1 c2
          go_wp2
          go_roundw
          case rel => exact ⟨1, by omega, rfl, hz.succ (by rw [hv.out, hk1, hk2, hk3, hk4]; rfl), he2.trans ((Ext.refl _).drew.trans hera)⟩
          case measure => simp [intOf]; omega
        · obtain ⟨j, rfl⟩ : ∃ j, k = j + 1 := ⟨k - 1, by omega⟩
          obtain ⟨y, hy⟩ := getD_some hl.out (show j < n by omega)
          obtain ⟨-, d0, d1⟩ := hprev.out j y rfl hy
          obtain ⟨t1, t2, -, -⟩ := hs.out y (List.mem_of_getElem? hy)
          have hat : atL default xs (j + 1 - 1) = y := by rw [Nat.add_sub_cancel]; exact atL_of hy
          rw [hat] at hv
          have hwj : IntKind.i64.wrap (j : Int) = j := IntWalk.i64_in _ (by omega)
          have hjl : (j : Int) < n := by omega
          have hj0 : 0 < (j : Int) + 1 := by omega
          clear hat hy hprev
          rcases legC_three y x with hlc | hlc | hlc
          all_goals
            refine wp_region_facts [] [([], false, false), ([0], false, false), ([0, 1], false, false), ([0, 1, 2], false, false), ([0, 1, 2], false, false), ([0, 1, 2, 4], false, false), ([0, 1, 2, 3, 4, 5], false, false), ([0, 1, 2, 3, 4, 5, 6], false, false), ([0, 1, 2, 3, 4, 5, 6, 7], false, false), ([0, 1, 2], false, false), ([0, 1, 2, 9], false, false), ([0, 1, 2, 3, 4, 5, 6, 7, 8, 9, 10], false, false), ([0, 1, 2], false, false), ([0, 1, 2], false, false), ([0, 1, 2, 13], false, false), ([0, 1, 2, 12, 13, 14], false, false), ([0, 1, 2, 12, 13, 14, 15], false, false), ([0, 1, 2, 12, 13, 14, 15, 16], false, false), ([0, 1, 2], false, false), ([0, 1, 2, 18], false, false), ([0, 1, 2, 12, 13, 14, 15, 16, 17, 18, 19], false, false), ([0, 1, 2, 3, 4, 5, 6, 7, 8, 9, 10, 11, 12, 13, 14, 15, 16, 17, 18, 19, 20], false, true), ([0, 1, 2, 3, 4, 5, 6, 7, 8, 9, 10, 11, 12, 13, 14, 15, 16, 17, 18, 19, 20, 21], false, false), ([0, 1, 2, 3, 4, 5, 6, 7, 8, 9, 10, 11, 12, 13, 14, 15, 16, 17, 18, 19, 20, 21, 22], false, false), ([0, 1, 2, 3, 4, 5, 6, 7, 8, 9, 10, 11, 12, 13, 14, 15, 16, 17, 18, 19, 20, 21, 22, 23], false, false), ([0, 1, 2, 3, 4, 5, 6, 7, 8, 9, 10, 11, 12, 13, 14, 15, 16, 17, 18, 19, 20, 21, 22, 23, 24], false, false)] (Ext) Ext (fun _ => True) (by kernel_rfl) (by kernel_rfl) Ext.refl (fun _ _ _ => Ext.trans) (fun _ _ h => h) (fun _ _ h => h.size) (fun _ _ h _ => h) trivial ?_
            dsimp only [List.length_cons, List.length_nil, List.drop_succ_cons, List.drop_zero, List.drop_nil]
            refine fac_quiet 0 rfl rfl rfl (fun _ _ h _ => h) rfl rfl ?_
            apply Exists.intro
            refine ⟨fun sv w' hw' hfa => ?_, ?_⟩
            · obtain ⟨hc, hf, hz9⟩ := (hbk.drew.trans hw').walk; obtain ⟨hc2, hf2, hz8⟩ := ((Ext.refl w2).drew.trans hw').walk; have y0 := (hc _ (off + j * 3) hbw).trans d0; have y1 := (hc _ (off + j * 3 + 1) hbw).trans d1; have x0 := (hc2 _ 0 hX2.lt).trans (hX2.cell 0); have x1 := (hc2 _ 1 hX2.lt).trans (hX2.cell 1)
              refine ⟨rfl, ?_⟩
              simp only [putsL]
              change quietTo _ _ _ _ (Sem.run _ (execOp (Act.eval _) _) _)
              try simp only [Act.put, List.setIfInBounds_toArray, List.set_cons_succ, List.set_cons_zero]
              simp [go_sem, quietTo, Ext.refl]
              all_goals try simp (disch := omega) only [IntWalk.i64_in]
              all_goals first
                | rfl
            refine fac_quiet 1 rfl rfl rfl (fun _ _ h _ => h) rfl rfl ?_
            apply Exists.intro
            refine ⟨fun sv w' hw' hfa => ?_, ?_⟩
            · obtain ⟨f0, -⟩ := hfa
              replace f0 : sv 0 = _ := f0
              try dsimp only at f0
              obtain ⟨hc, hf, hz9⟩ := (hbk.drew.trans hw').walk; obtain ⟨hc2, hf2, hz8⟩ := ((Ext.refl w2).drew.trans hw').walk; have y0 := (hc _ (off + j * 3) hbw).trans d0; have y1 := (hc _ (off + j * 3 + 1) hbw).trans d1; have x0 := (hc2 _ 0 hX2.lt).trans (hX2.cell 0); have x1 := (hc2 _ 1 hX2.lt).trans (hX2.cell 1)
              refine ⟨rfl, ?_⟩
              simp only [putsL]
              change quietTo _ _ _ _ (Sem.run _ (execOp (Act.eval (Act.put _ (some 38) (sv 0))) _) _)
              try simp only [Act.put, List.setIfInBounds_toArray, List.set_cons_succ, List.set_cons_zero]
              simp [go_sem, quietTo, Ext.refl, ↓IntWalk.iteOmega, f0, hj0]
              all_goals try simp (disch := omega) only [IntWalk.i64_in]
              all_goals first
                | rfl
            refine fac_quiet 2 rfl rfl rfl (fun _ _ h _ => h) rfl rfl ?_
            apply Exists.intro
            refine ⟨fun sv w' hw' hfa => ?_, ?_⟩
            · obtain ⟨f0, f1, -⟩ := hfa
              replace f0 : sv 0 = _ := f0
              try dsimp only at f0
              replace f1 : sv 1 = _ := f1
              try dsimp only at f1
              obtain ⟨hc, hf, hz9⟩ := (hbk.drew.trans hw').walk; obtain ⟨hc2, hf2, hz8⟩ := ((Ext.refl w2).drew.trans hw').walk; have y0 := (hc _ (off + j * 3) hbw).trans d0; have y1 := (hc _ (off + j * 3 + 1) hbw).trans d1; have x0 := (hc2 _ 0 hX2.lt).trans (hX2.cell 0); have x1 := (hc2 _ 1 hX2.lt).trans (hX2.cell 1)
              refine ⟨rfl, ?_⟩
              simp only [putsL]
              change quietTo _ _ _ _ (Sem.run _ (execOp (Act.eval (Act.put (Act.put _ (some 39) (sv 1)) (some 38) (sv 0))) _) _)
              try simp only [Act.put, List.setIfInBounds_toArray, List.set_cons_succ, List.set_cons_zero]
              simp [go_sem, quietTo, Ext.refl, f1]
              all_goals try simp (disch := omega) only [IntWalk.i64_in]
              all_goals first
                | rfl
            refine fac_quiet 3 rfl rfl rfl (fun _ _ h _ => h) rfl rfl ?_
            apply Exists.intro
            refine ⟨fun sv w' hw' hfa => ?_, ?_⟩
            · obtain ⟨f0, f1, f2, -⟩ := hfa
              replace f0 : sv 0 = _ := f0
              try dsimp only at f0
              replace f1 : sv 1 = _ := f1
              try dsimp only at f1
              replace f2 : sv 2 = _ := f2
              try dsimp only at f2
              obtain ⟨hc, hf, hz9⟩ := (hbk.drew.trans hw').walk; obtain ⟨hc2, hf2, hz8⟩ := ((Ext.refl w2).drew.trans hw').walk; have y0 := (hc _ (off + j * 3) hbw).trans d0; have y1 := (hc _ (off + j * 3 + 1) hbw).trans d1; have x0 := (hc2 _ 0 hX2.lt).trans (hX2.cell 0); have x1 := (hc2 _ 1 hX2.lt).trans (hX2.cell 1)
              refine ⟨by simp [Region.wanted, yielded, putsL, Act.put, f2], ?_⟩
              simp only [putsL]
              change quietTo _ _ _ _ (Sem.run _ (execOp (Act.eval (Act.put (Act.put (Act.put _ (some 40) (sv 2)) (some 39) (sv 1)) (some 38) (sv 0))) _) _)
              try simp only [Act.put, List.setIfInBounds_toArray, List.set_cons_succ, List.set_cons_zero]
              simp [go_sem, quietTo, Ext.refl, f2]
              all_goals try simp (disch := omega) only [IntWalk.i64_in]
              all_goals first
                | rfl
            refine fac_quiet 4 rfl rfl rfl (fun _ _ h _ => h) rfl rfl ?_
            apply Exists.intro
            refine ⟨fun sv w' hw' hfa => ?_, ?_⟩
            · obtain ⟨f0, f1, f2, -⟩ := hfa
              replace f0 : sv 0 = _ := f0
              try dsimp only at f0
              replace f1 : sv 1 = _ := f1
              try dsimp only at f1
              replace f2 : sv 2 = _ := f2
              try dsimp only at f2
              obtain ⟨hc, hf, hz9⟩ := (hbk.drew.trans hw').walk; obtain ⟨hc2, hf2, hz8⟩ := ((Ext.refl w2).drew.trans hw').walk; have y0 := (hc _ (off + j * 3) hbw).trans d0; have y1 := (hc _ (off + j * 3 + 1) hbw).trans d1; have x0 := (hc2 _ 0 hX2.lt).trans (hX2.cell 0); have x1 := (hc2 _ 1 hX2.lt).trans (hX2.cell 1)
              refine ⟨by simp [Region.wanted, yielded, putsL, Act.put, f2], ?_⟩
              simp only [putsL]
              change quietTo _ _ _ _ (Sem.run _ (execOp (Act.eval (Act.put (Act.put (Act.put _ (some 40) (sv 2)) (some 39) (sv 1)) (some 38) (sv 0))) _) _)
              try simp only [Act.put, List.setIfInBounds_toArray, List.set_cons_succ, List.set_cons_zero]
              simp [go_sem, quietTo, Ext.refl, f2]
              all_goals try simp (disch := omega) only [IntWalk.i64_in]
              all_goals first
                | rfl
            refine fac_quiet 5 rfl rfl rfl (fun _ _ h _ => h) rfl rfl ?_
            apply Exists.intro
            refine ⟨fun sv w' hw' hfa => ?_, ?_⟩
            · obtain ⟨f0, f1, f2, f4, -⟩ := hfa
              replace f0 : sv 0 = _ := f0
              try dsimp only at f0
              replace f1 : sv 1 = _ := f1
              try dsimp only at f1
              replace f2 : sv 2 = _ := f2
              try dsimp only at f2
              replace f4 : sv 4 = _ := f4
              try dsimp only at f4
              obtain ⟨hc, hf, hz9⟩ := (hbk.drew.trans hw').walk; obtain ⟨hc2, hf2, hz8⟩ := ((Ext.refl w2).drew.trans hw').walk; have y0 := (hc _ (off + j * 3) hbw).trans d0; have y1 := (hc _ (off + j * 3 + 1) hbw).trans d1; have x0 := (hc2 _ 0 hX2.lt).trans (hX2.cell 0); have x1 := (hc2 _ 1 hX2.lt).trans (hX2.cell 1)
              refine ⟨by simp [Region.wanted, yielded, putsL, Act.put, f2, f4], ?_⟩
              simp only [putsL]
              change quietTo _ _ _ _ (Sem.run _ (execOp (Act.eval (Act.put (Act.put (Act.put (Act.put _ (some 42) (sv 4)) (some 40) (sv 2)) (some 39) (sv 1)) (some 38) (sv 0))) _) _)
              try simp only [Act.put, List.setIfInBounds_toArray, List.set_cons_succ, List.set_cons_zero]
              simp [go_sem, quietTo, Ext.refl, ↓IntWalk.iteOmega, f2, f4, hwj]
              all_goals try simp (disch := omega) only [IntWalk.i64_in]
              all_goals first
                | rfl
            refine fac_quiet 6 rfl rfl rfl (fun _ _ h _ => h) rfl rfl ?_
            apply Exists.intro
            refine ⟨fun sv w' hw' hfa => ?_, ?_⟩
            · obtain ⟨f0, f1, f2, f3, f4, f5, -⟩ := hfa
              replace f0 : sv 0 = _ := f0
              try dsimp only at f0
              replace f1 : sv 1 = _ := f1
              try dsimp only at f1
              replace f2 : sv 2 = _ := f2
              try dsimp only at f2
              replace f3 : sv 3 = _ := f3
              try dsimp only at f3
              replace f4 : sv 4 = _ := f4
              try dsimp only at f4
              replace f5 : sv 5 = _ := f5
              try dsimp only at f5
              obtain ⟨hc, hf, hz9⟩ := (hbk.drew.trans hw').walk; obtain ⟨hc2, hf2, hz8⟩ := ((Ext.refl w2).drew.trans hw').walk; have y0 := (hc _ (off + j * 3) hbw).trans d0; have y1 := (hc _ (off + j * 3 + 1) hbw).trans d1; have x0 := (hc2 _ 0 hX2.lt).trans (hX2.cell 0); have x1 := (hc2 _ 1 hX2.lt).trans (hX2.cell 1)
              refine ⟨by simp [Region.wanted, yielded, putsL, Act.put, f2, f3, f5], ?_⟩
              simp only [putsL]
              change quietTo _ _ _ _ (Sem.run _ (execOp (Act.eval (Act.put (Act.put (Act.put (Act.put (Act.put (Act.put _ (some 43) (sv 5)) (some 42) (sv 4)) (some 41) (sv 3)) (some 40) (sv 2)) (some 39) (sv 1)) (some 38) (sv 0))) _) _)
              try simp only [Act.put, List.setIfInBounds_toArray, List.set_cons_succ, List.set_cons_zero]
              simp [go_sem, quietTo, Ext.refl, ↓IntWalk.iteOmega, f2, f3, f5, hjl]
              all_goals try simp (disch := omega) only [IntWalk.i64_in]
              all_goals first
                | rfl
            refine fac_quiet 7 rfl rfl rfl (fun _ _ h _ => h) rfl rfl ?_
            apply Exists.intro
            refine ⟨fun sv w' hw' hfa => ?_, ?_⟩
            · obtain ⟨f0, f1, f2, f3, f4, f5, f6, -⟩ := hfa
              replace f0 : sv 0 = _ := f0
              try dsimp only at f0
              replace f1 : sv 1 = _ := f1
              try dsimp only at f1
              replace f2 : sv 2 = _ := f2
              try dsimp only at f2
              replace f3 : sv 3 = _ := f3
              try dsimp only at f3
              replace f4 : sv 4 = _ := f4
              try dsimp only at f4
              replace f5 : sv 5 = _ := f5
              try dsimp only at f5
              replace f6 : sv 6 = _ := f6
              try dsimp only at f6
              obtain ⟨hc, hf, hz9⟩ := (hbk.drew.trans hw').walk; obtain ⟨hc2, hf2, hz8⟩ := ((Ext.refl w2).drew.trans hw').walk; have y0 := (hc _ (off + j * 3) hbw).trans d0; have y1 := (hc _ (off + j * 3 + 1) hbw).trans d1; have x0 := (hc2 _ 0 hX2.lt).trans (hX2.cell 0); have x1 := (hc2 _ 1 hX2.lt).trans (hX2.cell 1)
              refine ⟨by simp [Region.wanted, yielded, putsL, Act.put, f2, f6], ?_⟩
              simp only [putsL]
              change quietTo _ _ _ _ (Sem.run _ (execOp (Act.eval (Act.put (Act.put (Act.put (Act.put (Act.put (Act.put (Act.put _ (some 44) (sv 6)) (some 43) (sv 5)) (some 42) (sv 4)) (some 41) (sv 3)) (some 40) (sv 2)) (some 39) (sv 1)) (some 38) (sv 0))) _) _)
              try simp only [Act.put, List.setIfInBounds_toArray, List.set_cons_succ, List.set_cons_zero]
              simp [go_sem, quietTo, Ext.refl, f2, f6]
              all_goals try simp (disch := omega) only [IntWalk.i64_in]
              all_goals first
                | rfl
            refine fac_quiet 8 rfl rfl rfl (fun _ _ h _ => h) rfl rfl ?_
            apply Exists.intro
            refine ⟨fun sv w' hw' hfa => ?_, ?_⟩
            · obtain ⟨f0, f1, f2, f3, f4, f5, f6, f7, -⟩ := hfa
              replace f0 : sv 0 = _ := f0
              try dsimp only at f0
              replace f1 : sv 1 = _ := f1
              try dsimp only at f1
              replace f2 : sv 2 = _ := f2
              try dsimp only at f2
              replace f3 : sv 3 = _ := f3
              try dsimp only at f3
              replace f4 : sv 4 = _ := f4
              try dsimp only at f4
              replace f5 : sv 5 = _ := f5
              try dsimp only at f5
              replace f6 : sv 6 = _ := f6
              try dsimp only at f6
              replace f7 : sv 7 = _ := f7
              try dsimp only at f7
              obtain ⟨hc, hf, hz9⟩ := (hbk.drew.trans hw').walk; obtain ⟨hc2, hf2, hz8⟩ := ((Ext.refl w2).drew.trans hw').walk; have y0 := (hc _ (off + j * 3) hbw).trans d0; have y1 := (hc _ (off + j * 3 + 1) hbw).trans d1; have x0 := (hc2 _ 0 hX2.lt).trans (hX2.cell 0); have x1 := (hc2 _ 1 hX2.lt).trans (hX2.cell 1)
              refine ⟨by simp [Region.wanted, yielded, putsL, Act.put, f2, f7], ?_⟩
              simp only [putsL]
              change quietTo _ _ _ _ (Sem.run _ (execOp (Act.eval (Act.put (Act.put (Act.put (Act.put (Act.put (Act.put (Act.put (Act.put _ (some 45) (sv 7)) (some 44) (sv 6)) (some 43) (sv 5)) (some 42) (sv 4)) (some 41) (sv 3)) (some 40) (sv 2)) (some 39) (sv 1)) (some 38) (sv 0))) _) _)
              try simp only [Act.put, List.setIfInBounds_toArray, List.set_cons_succ, List.set_cons_zero]
              simp [go_sem, quietTo, Ext.refl, ↓IntWalk.iteOmega, f2, f7, y0]
              all_goals try simp (disch := omega) only [IntWalk.i64_in]
              all_goals first
                | rfl
            refine fac_quiet 9 rfl rfl rfl (fun _ _ h _ => h) rfl rfl ?_
            apply Exists.intro
            refine ⟨fun sv w' hw' hfa => ?_, ?_⟩
            · obtain ⟨f0, f1, f2, -⟩ := hfa
              replace f0 : sv 0 = _ := f0
              try dsimp only at f0
              replace f1 : sv 1 = _ := f1
              try dsimp only at f1
              replace f2 : sv 2 = _ := f2
              try dsimp only at f2
              obtain ⟨hc, hf, hz9⟩ := (hbk.drew.trans hw').walk; obtain ⟨hc2, hf2, hz8⟩ := ((Ext.refl w2).drew.trans hw').walk; have y0 := (hc _ (off + j * 3) hbw).trans d0; have y1 := (hc _ (off + j * 3 + 1) hbw).trans d1; have x0 := (hc2 _ 0 hX2.lt).trans (hX2.cell 0); have x1 := (hc2 _ 1 hX2.lt).trans (hX2.cell 1)
              refine ⟨by simp [Region.wanted, yielded, putsL, Act.put, f2], ?_⟩
              simp only [putsL]
              change quietTo _ _ _ _ (Sem.run _ (execOp (Act.eval (Act.put (Act.put (Act.put _ (some 40) (sv 2)) (some 39) (sv 1)) (some 38) (sv 0))) _) _)
              try simp only [Act.put, List.setIfInBounds_toArray, List.set_cons_succ, List.set_cons_zero]
              simp [go_sem, quietTo, Ext.refl, f2]
              all_goals try simp (disch := omega) only [IntWalk.i64_in]
              all_goals first
                | rfl
            refine fac_quiet 10 rfl rfl rfl (fun _ _ h _ => h) rfl rfl ?_
            apply Exists.intro
            refine ⟨fun sv w' hw' hfa => ?_, ?_⟩
            · obtain ⟨f0, f1, f2, f9, -⟩ := hfa
              replace f0 : sv 0 = _ := f0
              try dsimp only at f0
              replace f1 : sv 1 = _ := f1
              try dsimp only at f1
              replace f2 : sv 2 = _ := f2
              try dsimp only at f2
              replace f9 : sv 9 = _ := f9
              try dsimp only at f9
              obtain ⟨hc, hf, hz9⟩ := (hbk.drew.trans hw').walk; obtain ⟨hc2, hf2, hz8⟩ := ((Ext.refl w2).drew.trans hw').walk; have y0 := (hc _ (off + j * 3) hbw).trans d0; have y1 := (hc _ (off + j * 3 + 1) hbw).trans d1; have x0 := (hc2 _ 0 hX2.lt).trans (hX2.cell 0); have x1 := (hc2 _ 1 hX2.lt).trans (hX2.cell 1)
              refine ⟨by simp [Region.wanted, yielded, putsL, Act.put, f2, f9], ?_⟩
              simp only [putsL]
              change quietTo _ _ _ _ (Sem.run _ (execOp (Act.eval (Act.put (Act.put (Act.put (Act.put _ (some 47) (sv 9)) (some 40) (sv 2)) (some 39) (sv 1)) (some 38) (sv 0))) _) _)
              try simp only [Act.put, List.setIfInBounds_toArray, List.set_cons_succ, List.set_cons_zero]
              simp [go_sem, quietTo, Ext.refl, ↓IntWalk.iteOmega, f2, f9, x0]
              all_goals try simp (disch := omega) only [IntWalk.i64_in]
              all_goals first
                | rfl
            refine fac_quiet 11 rfl rfl rfl (fun _ _ h _ => h) rfl rfl ?_
            apply Exists.intro
            refine ⟨fun sv w' hw' hfa => ?_, ?_⟩
            · obtain ⟨f0, f1, f2, f3, f4, f5, f6, f7, f8, f9, f10, -⟩ := hfa
              replace f0 : sv 0 = _ := f0
              try dsimp only at f0
              replace f1 : sv 1 = _ := f1
              try dsimp only at f1
              replace f2 : sv 2 = _ := f2
              try dsimp only at f2
              replace f3 : sv 3 = _ := f3
              try dsimp only at f3
              replace f4 : sv 4 = _ := f4
              try dsimp only at f4
              replace f5 : sv 5 = _ := f5
              try dsimp only at f5
              replace f6 : sv 6 = _ := f6
              try dsimp only at f6
              replace f7 : sv 7 = _ := f7
              try dsimp only at f7
              replace f8 : sv 8 = _ := f8
              try dsimp only at f8
              replace f9 : sv 9 = _ := f9
              try dsimp only at f9
              replace f10 : sv 10 = _ := f10
              try dsimp only at f10
              obtain ⟨hc, hf, hz9⟩ := (hbk.drew.trans hw').walk; obtain ⟨hc2, hf2, hz8⟩ := ((Ext.refl w2).drew.trans hw').walk; have y0 := (hc _ (off + j * 3) hbw).trans d0; have y1 := (hc _ (off + j * 3 + 1) hbw).trans d1; have x0 := (hc2 _ 0 hX2.lt).trans (hX2.cell 0); have x1 := (hc2 _ 1 hX2.lt).trans (hX2.cell 1)
              refine ⟨by simp [Region.wanted, yielded, putsL, Act.put, f2, f8, f10], ?_⟩
              simp only [putsL]
              change quietTo _ _ _ _ (Sem.run _ (execOp (Act.eval (Act.put (Act.put (Act.put (Act.put (Act.put (Act.put (Act.put (Act.put (Act.put (Act.put (Act.put _ (some 48) (sv 10)) (some 47) (sv 9)) (some 46) (sv 8)) (some 45) (sv 7)) (some 44) (sv 6)) (some 43) (sv 5)) (some 42) (sv 4)) (some 41) (sv 3)) (some 40) (sv 2)) (some 39) (sv 1)) (some 38) (sv 0))) _) _)
              try simp only [Act.put, List.setIfInBounds_toArray, List.set_cons_succ, List.set_cons_zero]
              simp [go_sem, quietTo, Ext.refl, ↓IntWalk.iteOmega, f2, f8, f10]
              all_goals try simp (disch := omega) only [IntWalk.i64_in]
              all_goals first
                | rfl
                | (exact cmpS_call y.fr x.fr _)
            refine fac_quiet 12 rfl rfl rfl (fun _ _ h _ => h) rfl rfl ?_
            apply Exists.intro
            refine ⟨fun sv w' hw' hfa => ?_, ?_⟩
            · obtain ⟨f0, f1, f2, -⟩ := hfa
              replace f0 : sv 0 = _ := f0
              try dsimp only at f0
              replace f1 : sv 1 = _ := f1
              try dsimp only at f1
              replace f2 : sv 2 = _ := f2
              try dsimp only at f2
              obtain ⟨hc, hf, hz9⟩ := (hbk.drew.trans hw').walk; obtain ⟨hc2, hf2, hz8⟩ := ((Ext.refl w2).drew.trans hw').walk; have y0 := (hc _ (off + j * 3) hbw).trans d0; have y1 := (hc _ (off + j * 3 + 1) hbw).trans d1; have x0 := (hc2 _ 0 hX2.lt).trans (hX2.cell 0); have x1 := (hc2 _ 1 hX2.lt).trans (hX2.cell 1)
              refine ⟨by simp [Region.wanted, yielded, putsL, Act.put, f2], ?_⟩
              simp only [putsL]
              change quietTo _ _ _ _ (Sem.run _ (execOp (Act.eval (Act.put (Act.put (Act.put _ (some 40) (sv 2)) (some 39) (sv 1)) (some 38) (sv 0))) _) _)
              try simp only [Act.put, List.setIfInBounds_toArray, List.set_cons_succ, List.set_cons_zero]
              simp [go_sem, quietTo, Ext.refl, f2]
              all_goals try simp (disch := omega) only [IntWalk.i64_in]
              all_goals first
                | rfl
            refine fac_quiet 13 rfl rfl rfl (fun _ _ h _ => h) rfl rfl ?_
            apply Exists.intro
            refine ⟨fun sv w' hw' hfa => ?_, ?_⟩
            · obtain ⟨f0, f1, f2, -⟩ := hfa
              replace f0 : sv 0 = _ := f0
              try dsimp only at f0
              replace f1 : sv 1 = _ := f1
              try dsimp only at f1
              replace f2 : sv 2 = _ := f2
              try dsimp only at f2
              obtain ⟨hc, hf, hz9⟩ := (hbk.drew.trans hw').walk; obtain ⟨hc2, hf2, hz8⟩ := ((Ext.refl w2).drew.trans hw').walk; have y0 := (hc _ (off + j * 3) hbw).trans d0; have y1 := (hc _ (off + j * 3 + 1) hbw).trans d1; have x0 := (hc2 _ 0 hX2.lt).trans (hX2.cell 0); have x1 := (hc2 _ 1 hX2.lt).trans (hX2.cell 1)
              refine ⟨by simp [Region.wanted, yielded, putsL, Act.put, f2], ?_⟩
              simp only [putsL]
              change quietTo _ _ _ _ (Sem.run _ (execOp (Act.eval (Act.put (Act.put (Act.put _ (some 40) (sv 2)) (some 39) (sv 1)) (some 38) (sv 0))) _) _)
              try simp only [Act.put, List.setIfInBounds_toArray, List.set_cons_succ, List.set_cons_zero]
              simp [go_sem, quietTo, Ext.refl, f2]
              all_goals try simp (disch := omega) only [IntWalk.i64_in]
              all_goals first
                | rfl
            refine fac_quiet 14 rfl rfl rfl (fun _ _ h _ => h) rfl rfl ?_
            apply Exists.intro
            refine ⟨fun sv w' hw' hfa => ?_, ?_⟩
            · obtain ⟨f0, f1, f2, f13, -⟩ := hfa
              replace f0 : sv 0 = _ := f0
              try dsimp only at f0
              replace f1 : sv 1 = _ := f1
              try dsimp only at f1
              replace f2 : sv 2 = _ := f2
              try dsimp only at f2
              replace f13 : sv 13 = _ := f13
              try dsimp only at f13
              obtain ⟨hc, hf, hz9⟩ := (hbk.drew.trans hw').walk; obtain ⟨hc2, hf2, hz8⟩ := ((Ext.refl w2).drew.trans hw').walk; have y0 := (hc _ (off + j * 3) hbw).trans d0; have y1 := (hc _ (off + j * 3 + 1) hbw).trans d1; have x0 := (hc2 _ 0 hX2.lt).trans (hX2.cell 0); have x1 := (hc2 _ 1 hX2.lt).trans (hX2.cell 1)
              refine ⟨by simp [Region.wanted, yielded, putsL, Act.put, f2, f13], ?_⟩
              simp only [putsL]
              change quietTo _ _ _ _ (Sem.run _ (execOp (Act.eval (Act.put (Act.put (Act.put (Act.put _ (some 51) (sv 13)) (some 40) (sv 2)) (some 39) (sv 1)) (some 38) (sv 0))) _) _)
              try simp only [Act.put, List.setIfInBounds_toArray, List.set_cons_succ, List.set_cons_zero]
              simp [go_sem, quietTo, Ext.refl, ↓IntWalk.iteOmega, f2, f13, hwj]
              all_goals try simp (disch := omega) only [IntWalk.i64_in]
              all_goals first
                | rfl
            refine fac_quiet 15 rfl rfl rfl (fun _ _ h _ => h) rfl rfl ?_
            apply Exists.intro
            refine ⟨fun sv w' hw' hfa => ?_, ?_⟩
            · obtain ⟨f0, f1, f2, f12, f13, f14, -⟩ := hfa
              replace f0 : sv 0 = _ := f0
              try dsimp only at f0
              replace f1 : sv 1 = _ := f1
              try dsimp only at f1
              replace f2 : sv 2 = _ := f2
              try dsimp only at f2
              replace f12 : sv 12 = _ := f12
              try dsimp only at f12
              replace f13 : sv 13 = _ := f13
              try dsimp only at f13
              replace f14 : sv 14 = _ := f14
              try dsimp only at f14
              obtain ⟨hc, hf, hz9⟩ := (hbk.drew.trans hw').walk; obtain ⟨hc2, hf2, hz8⟩ := ((Ext.refl w2).drew.trans hw').walk; have y0 := (hc _ (off + j * 3) hbw).trans d0; have y1 := (hc _ (off + j * 3 + 1) hbw).trans d1; have x0 := (hc2 _ 0 hX2.lt).trans (hX2.cell 0); have x1 := (hc2 _ 1 hX2.lt).trans (hX2.cell 1)
              refine ⟨by simp [Region.wanted, yielded, putsL, Act.put, f2, f12, f14], ?_⟩
              simp only [putsL]
              change quietTo _ _ _ _ (Sem.run _ (execOp (Act.eval (Act.put (Act.put (Act.put (Act.put (Act.put (Act.put _ (some 52) (sv 14)) (some 51) (sv 13)) (some 50) (sv 12)) (some 40) (sv 2)) (some 39) (sv 1)) (some 38) (sv 0))) _) _)
              try simp only [Act.put, List.setIfInBounds_toArray, List.set_cons_succ, List.set_cons_zero]
              simp [go_sem, quietTo, Ext.refl, ↓IntWalk.iteOmega, f2, f12, f14, hjl]
              all_goals try simp (disch := omega) only [IntWalk.i64_in]
              all_goals first
                | rfl
            refine fac_quiet 16 rfl rfl rfl (fun _ _ h _ => h) rfl rfl ?_
            apply Exists.intro
            refine ⟨fun sv w' hw' hfa => ?_, ?_⟩
            · obtain ⟨f0, f1, f2, f12, f13, f14, f15, -⟩ := hfa
              replace f0 : sv 0 = _ := f0
              try dsimp only at f0
              replace f1 : sv 1 = _ := f1
              try dsimp only at f1
              replace f2 : sv 2 = _ := f2
              try dsimp only at f2
              replace f12 : sv 12 = _ := f12
              try dsimp only at f12
              replace f13 : sv 13 = _ := f13
              try dsimp only at f13
              replace f14 : sv 14 = _ := f14
              try dsimp only at f14
              replace f15 : sv 15 = _ := f15
              try dsimp only at f15
              obtain ⟨hc, hf, hz9⟩ := (hbk.drew.trans hw').walk; obtain ⟨hc2, hf2, hz8⟩ := ((Ext.refl w2).drew.trans hw').walk; have y0 := (hc _ (off + j * 3) hbw).trans d0; have y1 := (hc _ (off + j * 3 + 1) hbw).trans d1; have x0 := (hc2 _ 0 hX2.lt).trans (hX2.cell 0); have x1 := (hc2 _ 1 hX2.lt).trans (hX2.cell 1)
              refine ⟨by simp [Region.wanted, yielded, putsL, Act.put, f2, f15], ?_⟩
              simp only [putsL]
              change quietTo _ _ _ _ (Sem.run _ (execOp (Act.eval (Act.put (Act.put (Act.put (Act.put (Act.put (Act.put (Act.put _ (some 53) (sv 15)) (some 52) (sv 14)) (some 51) (sv 13)) (some 50) (sv 12)) (some 40) (sv 2)) (some 39) (sv 1)) (some 38) (sv 0))) _) _)
              try simp only [Act.put, List.setIfInBounds_toArray, List.set_cons_succ, List.set_cons_zero]
              simp [go_sem, quietTo, Ext.refl, f2, f15]
              all_goals try simp (disch := omega) only [IntWalk.i64_in]
              all_goals first
                | rfl
            refine fac_quiet 17 rfl rfl rfl (fun _ _ h _ => h) rfl rfl ?_
            apply Exists.intro
            refine ⟨fun sv w' hw' hfa => ?_, ?_⟩
            · obtain ⟨f0, f1, f2, f12, f13, f14, f15, f16, -⟩ := hfa
              replace f0 : sv 0 = _ := f0
              try dsimp only at f0
              replace f1 : sv 1 = _ := f1
              try dsimp only at f1
              replace f2 : sv 2 = _ := f2
              try dsimp only at f2
              replace f12 : sv 12 = _ := f12
              try dsimp only at f12
              replace f13 : sv 13 = _ := f13
              try dsimp only at f13
              replace f14 : sv 14 = _ := f14
              try dsimp only at f14
              replace f15 : sv 15 = _ := f15
              try dsimp only at f15
              replace f16 : sv 16 = _ := f16
              try dsimp only at f16
              obtain ⟨hc, hf, hz9⟩ := (hbk.drew.trans hw').walk; obtain ⟨hc2, hf2, hz8⟩ := ((Ext.refl w2).drew.trans hw').walk; have y0 := (hc _ (off + j * 3) hbw).trans d0; have y1 := (hc _ (off + j * 3 + 1) hbw).trans d1; have x0 := (hc2 _ 0 hX2.lt).trans (hX2.cell 0); have x1 := (hc2 _ 1 hX2.lt).trans (hX2.cell 1)
              refine ⟨by simp [Region.wanted, yielded, putsL, Act.put, f2, f16], ?_⟩
              simp only [putsL]
              change quietTo _ _ _ _ (Sem.run _ (execOp (Act.eval (Act.put (Act.put (Act.put (Act.put (Act.put (Act.put (Act.put (Act.put _ (some 54) (sv 16)) (some 53) (sv 15)) (some 52) (sv 14)) (some 51) (sv 13)) (some 50) (sv 12)) (some 40) (sv 2)) (some 39) (sv 1)) (some 38) (sv 0))) _) _)
              try simp only [Act.put, List.setIfInBounds_toArray, List.set_cons_succ, List.set_cons_zero]
              simp [go_sem, quietTo, Ext.refl, ↓IntWalk.iteOmega, f2, f16, y1]
              all_goals try simp (disch := omega) only [IntWalk.i64_in]
              all_goals first
                | rfl
            refine fac_quiet 18 rfl rfl rfl (fun _ _ h _ => h) rfl rfl ?_
            apply Exists.intro
            refine ⟨fun sv w' hw' hfa => ?_, ?_⟩
            · obtain ⟨f0, f1, f2, -⟩ := hfa
              replace f0 : sv 0 = _ := f0
              try dsimp only at f0
              replace f1 : sv 1 = _ := f1
              try dsimp only at f1
              replace f2 : sv 2 = _ := f2
              try dsimp only at f2
              obtain ⟨hc, hf, hz9⟩ := (hbk.drew.trans hw').walk; obtain ⟨hc2, hf2, hz8⟩ := ((Ext.refl w2).drew.trans hw').walk; have y0 := (hc _ (off + j * 3) hbw).trans d0; have y1 := (hc _ (off + j * 3 + 1) hbw).trans d1; have x0 := (hc2 _ 0 hX2.lt).trans (hX2.cell 0); have x1 := (hc2 _ 1 hX2.lt).trans (hX2.cell 1)
              refine ⟨by simp [Region.wanted, yielded, putsL, Act.put, f2], ?_⟩
              simp only [putsL]
              change quietTo _ _ _ _ (Sem.run _ (execOp (Act.eval (Act.put (Act.put (Act.put _ (some 40) (sv 2)) (some 39) (sv 1)) (some 38) (sv 0))) _) _)
              try simp only [Act.put, List.setIfInBounds_toArray, List.set_cons_succ, List.set_cons_zero]
              simp [go_sem, quietTo, Ext.refl, f2]
              all_goals try simp (disch := omega) only [IntWalk.i64_in]
              all_goals first
                | rfl
            refine fac_quiet 19 rfl rfl rfl (fun _ _ h _ => h) rfl rfl ?_
            apply Exists.intro
            refine ⟨fun sv w' hw' hfa => ?_, ?_⟩
            · obtain ⟨f0, f1, f2, f18, -⟩ := hfa
              replace f0 : sv 0 = _ := f0
              try dsimp only at f0
              replace f1 : sv 1 = _ := f1
              try dsimp only at f1
              replace f2 : sv 2 = _ := f2
              try dsimp only at f2
              replace f18 : sv 18 = _ := f18
              try dsimp only at f18
              obtain ⟨hc, hf, hz9⟩ := (hbk.drew.trans hw').walk; obtain ⟨hc2, hf2, hz8⟩ := ((Ext.refl w2).drew.trans hw').walk; have y0 := (hc _ (off + j * 3) hbw).trans d0; have y1 := (hc _ (off + j * 3 + 1) hbw).trans d1; have x0 := (hc2 _ 0 hX2.lt).trans (hX2.cell 0); have x1 := (hc2 _ 1 hX2.lt).trans (hX2.cell 1)
              refine ⟨by simp [Region.wanted, yielded, putsL, Act.put, f2, f18], ?_⟩
              simp only [putsL]
              change quietTo _ _ _ _ (Sem.run _ (execOp (Act.eval (Act.put (Act.put (Act.put (Act.put _ (some 56) (sv 18)) (some 40) (sv 2)) (some 39) (sv 1)) (some 38) (sv 0))) _) _)
              try simp only [Act.put, List.setIfInBounds_toArray, List.set_cons_succ, List.set_cons_zero]
              simp [go_sem, quietTo, Ext.refl, ↓IntWalk.iteOmega, f2, f18, x1]
              all_goals try simp (disch := omega) only [IntWalk.i64_in]
              all_goals first
                | rfl
            refine fac_quiet 20 rfl rfl rfl (fun _ _ h _ => h) rfl rfl ?_
            apply Exists.intro
            refine ⟨fun sv w' hw' hfa => ?_, ?_⟩
            · obtain ⟨f0, f1, f2, f12, f13, f14, f15, f16, f17, f18, f19, -⟩ := hfa
              replace f0 : sv 0 = _ := f0
              try dsimp only at f0
              replace f1 : sv 1 = _ := f1
              try dsimp only at f1
              replace f2 : sv 2 = _ := f2
              try dsimp only at f2
              replace f12 : sv 12 = _ := f12
              try dsimp only at f12
              replace f13 : sv 13 = _ := f13
              try dsimp only at f13
              replace f14 : sv 14 = _ := f14
              try dsimp only at f14
              replace f15 : sv 15 = _ := f15
              try dsimp only at f15
              replace f16 : sv 16 = _ := f16
              try dsimp only at f16
              replace f17 : sv 17 = _ := f17
              try dsimp only at f17
              replace f18 : sv 18 = _ := f18
              try dsimp only at f18
              replace f19 : sv 19 = _ := f19
              try dsimp only at f19
              obtain ⟨hc, hf, hz9⟩ := (hbk.drew.trans hw').walk; obtain ⟨hc2, hf2, hz8⟩ := ((Ext.refl w2).drew.trans hw').walk; have y0 := (hc _ (off + j * 3) hbw).trans d0; have y1 := (hc _ (off + j * 3 + 1) hbw).trans d1; have x0 := (hc2 _ 0 hX2.lt).trans (hX2.cell 0); have x1 := (hc2 _ 1 hX2.lt).trans (hX2.cell 1)
              refine ⟨by simp [Region.wanted, yielded, putsL, Act.put, f2, f17, f19], ?_⟩
              simp only [putsL]
              change quietTo _ _ _ _ (Sem.run _ (execOp (Act.eval (Act.put (Act.put (Act.put (Act.put (Act.put (Act.put (Act.put (Act.put (Act.put (Act.put (Act.put _ (some 57) (sv 19)) (some 56) (sv 18)) (some 55) (sv 17)) (some 54) (sv 16)) (some 53) (sv 15)) (some 52) (sv 14)) (some 51) (sv 13)) (some 50) (sv 12)) (some 40) (sv 2)) (some 39) (sv 1)) (some 38) (sv 0))) _) _)
              try simp only [Act.put, List.setIfInBounds_toArray, List.set_cons_succ, List.set_cons_zero]
              simp [go_sem, quietTo, Ext.refl, ↓IntWalk.iteOmega, f2, f17, f19]
              all_goals try simp (disch := omega) only [IntWalk.i64_in]
              all_goals first
                | rfl
                | (exact cmpS_call y.to x.to _)
            refine fac_row 21 rfl rfl rfl (fun _ _ h _ => h) (fun _ _ h => h.size) (fun _ _ _ _ _ he _ hb => hb.ext he) ?_
            apply Exists.intro
            apply Exists.intro
            apply Exists.intro
            apply Exists.intro
            refine ⟨fun sv w' hw' hfa => ?_, ?_⟩
            · obtain ⟨f0, f1, f2, f3, f4, f5, f6, f7, f8, f9, f10, f11, f12, f13, f14, f15, f16, f17, f18, f19, f20, -⟩ := hfa
              replace f0 : sv 0 = _ := f0
              try dsimp only at f0
              replace f1 : sv 1 = _ := f1
              try dsimp only at f1
              replace f2 : sv 2 = _ := f2
              try dsimp only at f2
              replace f3 : sv 3 = _ := f3
              try dsimp only at f3
              replace f4 : sv 4 = _ := f4
              try dsimp only at f4
              replace f5 : sv 5 = _ := f5
              try dsimp only at f5
              replace f6 : sv 6 = _ := f6
              try dsimp only at f6
              replace f7 : sv 7 = _ := f7
              try dsimp only at f7
              replace f8 : sv 8 = _ := f8
              try dsimp only at f8
              replace f9 : sv 9 = _ := f9
              try dsimp only at f9
              replace f10 : sv 10 = _ := f10
              try dsimp only at f10
              replace f11 : sv 11 = _ := f11
              try dsimp only at f11
              replace f12 : sv 12 = _ := f12
              try dsimp only at f12
              replace f13 : sv 13 = _ := f13
              try dsimp only at f13
              replace f14 : sv 14 = _ := f14
              try dsimp only at f14
              replace f15 : sv 15 = _ := f15
              try dsimp only at f15
              replace f16 : sv 16 = _ := f16
              try dsimp only at f16
              replace f17 : sv 17 = _ := f17
              try dsimp only at f17
              replace f18 : sv 18 = _ := f18
              try dsimp only at f18
              replace f19 : sv 19 = _ := f19
              try dsimp only at f19
              replace f20 : sv 20 = _ := f20
              try dsimp only at f20
              obtain ⟨hc, hf, hz9⟩ := (hbk.drew.trans hw').walk; obtain ⟨hc2, hf2, hz8⟩ := ((Ext.refl w2).drew.trans hw').walk; have y0 := (hc _ (off + j * 3) hbw).trans d0; have y1 := (hc _ (off + j * 3 + 1) hbw).trans d1; have x0 := (hc2 _ 0 hX2.lt).trans (hX2.cell 0); have x1 := (hc2 _ 1 hX2.lt).trans (hX2.cell 1)
              refine ⟨by simp [Region.wanted, yielded, putsL, Act.put, f2, f11, f20], ?_⟩
              simp only [putsL]
              change rowTo _ _ _ _ _ (Sem.run _ (execOp (Act.eval (Act.put (Act.put (Act.put (Act.put (Act.put (Act.put (Act.put (Act.put (Act.put (Act.put (Act.put (Act.put (Act.put (Act.put (Act.put (Act.put (Act.put (Act.put (Act.put (Act.put (Act.put _ (some 58) (sv 20)) (some 57) (sv 19)) (some 56) (sv 18)) (some 55) (sv 17)) (some 54) (sv 16)) (some 53) (sv 15)) (some 52) (sv 14)) (some 51) (sv 13)) (some 50) (sv 12)) (some 49) (sv 11)) (some 48) (sv 10)) (some 47) (sv 9)) (some 46) (sv 8)) (some 45) (sv 7)) (some 44) (sv 6)) (some 43) (sv 5)) (some 42) (sv 4)) (some 41) (sv 3)) (some 40) (sv 2)) (some 39) (sv 1)) (some 38) (sv 0))) _) _)
              try simp only [Act.put, List.setIfInBounds_toArray, List.set_cons_succ, List.set_cons_zero]
              simp [go_sem, rowTo, Ext.refl, f2, f11, f20]
              all_goals try simp (disch := omega) only [IntWalk.i64_in]
              all_goals first
                | rfl
                | exact ⟨rfl, rfl⟩
                | exact ⟨⟨rfl, rfl⟩, rfl⟩
            refine fac_quiet 22 rfl rfl rfl (fun _ _ h _ => h) rfl rfl ?_
            apply Exists.intro
            refine ⟨fun sv w' hw' hfa => ?_, ?_⟩
            · obtain ⟨f0, f1, f2, f3, f4, f5, f6, f7, f8, f9, f10, f11, f12, f13, f14, f15, f16, f17, f18, f19, f20, f21, -⟩ := hfa
              replace f0 : sv 0 = _ := f0
              try dsimp only at f0
              replace f1 : sv 1 = _ := f1
              try dsimp only at f1
              replace f2 : sv 2 = _ := f2
              try dsimp only at f2
              replace f3 : sv 3 = _ := f3
              try dsimp only at f3
              replace f4 : sv 4 = _ := f4
              try dsimp only at f4
              replace f5 : sv 5 = _ := f5
              try dsimp only at f5
              replace f6 : sv 6 = _ := f6
              try dsimp only at f6
              replace f7 : sv 7 = _ := f7
              try dsimp only at f7
              replace f8 : sv 8 = _ := f8
              try dsimp only at f8
              replace f9 : sv 9 = _ := f9
              try dsimp only at f9
              replace f10 : sv 10 = _ := f10
              try dsimp only at f10
              replace f11 : sv 11 = _ := f11
              try dsimp only at f11
              replace f12 : sv 12 = _ := f12
              try dsimp only at f12
              replace f13 : sv 13 = _ := f13
              try dsimp only at f13
              replace f14 : sv 14 = _ := f14
              try dsimp only at f14
              replace f15 : sv 15 = _ := f15
              try dsimp only at f15
              replace f16 : sv 16 = _ := f16
              try dsimp only at f16
              replace f17 : sv 17 = _ := f17
              try dsimp only at f17
              replace f18 : sv 18 = _ := f18
              try dsimp only at f18
              replace f19 : sv 19 = _ := f19
              try dsimp only at f19
              replace f20 : sv 20 = _ := f20
              try dsimp only at f20
              obtain ⟨g21, f21, l21, b21⟩ := f21
              replace f21 : sv 21 = _ := f21
              obtain ⟨p21, q21⟩ := b21.walk
              obtain ⟨hc, hf, hz9⟩ := (hbk.drew.trans hw').walk; obtain ⟨hc2, hf2, hz8⟩ := ((Ext.refl w2).drew.trans hw').walk; have y0 := (hc _ (off + j * 3) hbw).trans d0; have y1 := (hc _ (off + j * 3 + 1) hbw).trans d1; have x0 := (hc2 _ 0 hX2.lt).trans (hX2.cell 0); have x1 := (hc2 _ 1 hX2.lt).trans (hX2.cell 1)
              refine ⟨by simp [Region.wanted, yielded, putsL, Act.put, f2, f21, p21, q21], ?_⟩
              simp only [putsL]
              change quietTo _ _ _ _ (Sem.run _ (execOp (Act.eval (Act.put (Act.put (Act.put (Act.put (Act.put (Act.put (Act.put (Act.put (Act.put (Act.put (Act.put (Act.put (Act.put (Act.put (Act.put (Act.put (Act.put (Act.put (Act.put (Act.put (Act.put (Act.put _ (some 59) (sv 21)) (some 58) (sv 20)) (some 57) (sv 19)) (some 56) (sv 18)) (some 55) (sv 17)) (some 54) (sv 16)) (some 53) (sv 15)) (some 52) (sv 14)) (some 51) (sv 13)) (some 50) (sv 12)) (some 49) (sv 11)) (some 48) (sv 10)) (some 47) (sv 9)) (some 46) (sv 8)) (some 45) (sv 7)) (some 44) (sv 6)) (some 43) (sv 5)) (some 42) (sv 4)) (some 41) (sv 3)) (some 40) (sv 2)) (some 39) (sv 1)) (some 38) (sv 0))) _) _)
              try simp only [Act.put, List.setIfInBounds_toArray, List.set_cons_succ, List.set_cons_zero]
              simp [go_sem, quietTo, Ext.refl, ↓IntWalk.iteOmega, f2, f21, p21, q21]
              all_goals try simp (disch := omega) only [IntWalk.i64_in]
              all_goals first
                | rfl
                | (exact legOr y x _ _ _ b21)
            refine fac_quiet 23 rfl rfl rfl (fun _ _ h _ => h) rfl rfl ?_
            apply Exists.intro
            refine ⟨fun sv w' hw' hfa => ?_, ?_⟩
            · obtain ⟨f0, f1, f2, f3, f4, f5, f6, f7, f8, f9, f10, f11, f12, f13, f14, f15, f16, f17, f18, f19, f20, f21, f22, -⟩ := hfa
              replace f0 : sv 0 = _ := f0
              try dsimp only at f0
              replace f1 : sv 1 = _ := f1
              try dsimp only at f1
              replace f2 : sv 2 = _ := f2
              try dsimp only at f2
              replace f3 : sv 3 = _ := f3
              try dsimp only at f3
              replace f4 : sv 4 = _ := f4
              try dsimp only at f4
              replace f5 : sv 5 = _ := f5
              try dsimp only at f5
              replace f6 : sv 6 = _ := f6
              try dsimp only at f6
              replace f7 : sv 7 = _ := f7
              try dsimp only at f7
              replace f8 : sv 8 = _ := f8
              try dsimp only at f8
              replace f9 : sv 9 = _ := f9
              try dsimp only at f9
              replace f10 : sv 10 = _ := f10
              try dsimp only at f10
              replace f11 : sv 11 = _ := f11
              try dsimp only at f11
              replace f12 : sv 12 = _ := f12
              try dsimp only at f12
              replace f13 : sv 13 = _ := f13
              try dsimp only at f13
              replace f14 : sv 14 = _ := f14
              try dsimp only at f14
              replace f15 : sv 15 = _ := f15
              try dsimp only at f15
              replace f16 : sv 16 = _ := f16
              try dsimp only at f16
              replace f17 : sv 17 = _ := f17
              try dsimp only at f17
              replace f18 : sv 18 = _ := f18
              try dsimp only at f18
              replace f19 : sv 19 = _ := f19
              try dsimp only at f19
              replace f20 : sv 20 = _ := f20
              try dsimp only at f20
              obtain ⟨g21, f21, l21, b21⟩ := f21
              replace f21 : sv 21 = _ := f21
              obtain ⟨p21, q21⟩ := b21.walk
              replace f22 : sv 22 = _ := f22
              try dsimp only at f22
              obtain ⟨hc, hf, hz9⟩ := (hbk.drew.trans hw').walk; obtain ⟨hc2, hf2, hz8⟩ := ((Ext.refl w2).drew.trans hw').walk; have y0 := (hc _ (off + j * 3) hbw).trans d0; have y1 := (hc _ (off + j * 3 + 1) hbw).trans d1; have x0 := (hc2 _ 0 hX2.lt).trans (hX2.cell 0); have x1 := (hc2 _ 1 hX2.lt).trans (hX2.cell 1)
              refine ⟨by simp [Region.wanted, yielded, putsL, Act.put, f2, f22, p21, q21], ?_⟩
              simp only [putsL]
              change quietTo _ _ _ _ (Sem.run _ (execOp (Act.eval (Act.put (Act.put (Act.put (Act.put (Act.put (Act.put (Act.put (Act.put (Act.put (Act.put (Act.put (Act.put (Act.put (Act.put (Act.put (Act.put (Act.put (Act.put (Act.put (Act.put (Act.put (Act.put (Act.put _ (some 60) (sv 22)) (some 59) (sv 21)) (some 58) (sv 20)) (some 57) (sv 19)) (some 56) (sv 18)) (some 55) (sv 17)) (some 54) (sv 16)) (some 53) (sv 15)) (some 52) (sv 14)) (some 51) (sv 13)) (some 50) (sv 12)) (some 49) (sv 11)) (some 48) (sv 10)) (some 47) (sv 9)) (some 46) (sv 8)) (some 45) (sv 7)) (some 44) (sv 6)) (some 43) (sv 5)) (some 42) (sv 4)) (some 41) (sv 3)) (some 40) (sv 2)) (some 39) (sv 1)) (some 38) (sv 0))) _) _)
              try simp only [Act.put, List.setIfInBounds_toArray, List.set_cons_succ, List.set_cons_zero]
              simp [go_sem, quietTo, Ext.refl, ↓IntWalk.iteOmega, f2, f22, p21, q21, hlc]
              all_goals try simp (disch := omega) only [IntWalk.i64_in]
              all_goals first
                | rfl
            refine fac_quiet 24 rfl rfl rfl (fun _ _ h _ => h) rfl rfl ?_
            apply Exists.intro
            refine ⟨fun sv w' hw' hfa => ?_, ?_⟩
            · obtain ⟨f0, f1, f2, f3, f4, f5, f6, f7, f8, f9, f10, f11, f12, f13, f14, f15, f16, f17, f18, f19, f20, f21, f22, f23, -⟩ := hfa
              replace f0 : sv 0 = _ := f0
              try dsimp only at f0
              replace f1 : sv 1 = _ := f1
              try dsimp only at f1
              replace f2 : sv 2 = _ := f2
              try dsimp only at f2
              replace f3 : sv 3 = _ := f3
              try dsimp only at f3
              replace f4 : sv 4 = _ := f4
              try dsimp only at f4
              replace f5 : sv 5 = _ := f5
              try dsimp only at f5
              replace f6 : sv 6 = _ := f6
              try dsimp only at f6
              replace f7 : sv 7 = _ := f7
              try dsimp only at f7
              replace f8 : sv 8 = _ := f8
              try dsimp only at f8
              replace f9 : sv 9 = _ := f9
              try dsimp only at f9
              replace f10 : sv 10 = _ := f10
              try dsimp only at f10
              replace f11 : sv 11 = _ := f11
              try dsimp only at f11
              replace f12 : sv 12 = _ := f12
              try dsimp only at f12
              replace f13 : sv 13 = _ := f13
              try dsimp only at f13
              replace f14 : sv 14 = _ := f14
              try dsimp only at f14
              replace f15 : sv 15 = _ := f15
              try dsimp only at f15
              replace f16 : sv 16 = _ := f16
              try dsimp only at f16
              replace f17 : sv 17 = _ := f17
              try dsimp only at f17
              replace f18 : sv 18 = _ := f18
              try dsimp only at f18
              replace f19 : sv 19 = _ := f19
              try dsimp only at f19
              replace f20 : sv 20 = _ := f20
              try dsimp only at f20
              obtain ⟨g21, f21, l21, b21⟩ := f21
              replace f21 : sv 21 = _ := f21
              obtain ⟨p21, q21⟩ := b21.walk
              replace f22 : sv 22 = _ := f22
              try dsimp only at f22
              replace f23 : sv 23 = _ := f23
              try dsimp only at f23
              obtain ⟨hc, hf, hz9⟩ := (hbk.drew.trans hw').walk; obtain ⟨hc2, hf2, hz8⟩ := ((Ext.refl w2).drew.trans hw').walk; have y0 := (hc _ (off + j * 3) hbw).trans d0; have y1 := (hc _ (off + j * 3 + 1) hbw).trans d1; have x0 := (hc2 _ 0 hX2.lt).trans (hX2.cell 0); have x1 := (hc2 _ 1 hX2.lt).trans (hX2.cell 1)
              refine ⟨rfl, ?_⟩
              simp only [putsL]
              change quietTo _ _ _ _ (Sem.run _ (execOp (Act.eval (Act.put (Act.put (Act.put (Act.put (Act.put (Act.put (Act.put (Act.put (Act.put (Act.put (Act.put (Act.put (Act.put (Act.put (Act.put (Act.put (Act.put (Act.put (Act.put (Act.put (Act.put (Act.put (Act.put (Act.put _ (some 61) (sv 23)) (some 60) (sv 22)) (some 59) (sv 21)) (some 58) (sv 20)) (some 57) (sv 19)) (some 56) (sv 18)) (some 55) (sv 17)) (some 54) (sv 16)) (some 53) (sv 15)) (some 52) (sv 14)) (some 51) (sv 13)) (some 50) (sv 12)) (some 49) (sv 11)) (some 48) (sv 10)) (some 47) (sv 9)) (some 46) (sv 8)) (some 45) (sv 7)) (some 44) (sv 6)) (some 43) (sv 5)) (some 42) (sv 4)) (some 41) (sv 3)) (some 40) (sv 2)) (some 39) (sv 1)) (some 38) (sv 0))) _) _)
              try simp only [Act.put, List.setIfInBounds_toArray, List.set_cons_succ, List.set_cons_zero]
              simp [go_sem, quietTo, Ext.refl, ↓IntWalk.iteOmega, f2, f23, p21, q21]
              all_goals try simp (disch := omega) only [IntWalk.i64_in]
              all_goals first
                | rfl
            refine fac_quiet 25 rfl rfl rfl (fun _ _ h _ => h) rfl rfl ?_
            apply Exists.intro
            refine ⟨fun sv w' hw' hfa => ?_, ?_⟩
            · obtain ⟨f0, f1, f2, f3, f4, f5, f6, f7, f8, f9, f10, f11, f12, f13, f14, f15, f16, f17, f18, f19, f20, f21, f22, f23, f24, -⟩ := hfa
              replace f0 : sv 0 = _ := f0
              try dsimp only at f0
              replace f1 : sv 1 = _ := f1
              try dsimp only at f1
              replace f2 : sv 2 = _ := f2
              try dsimp only at f2
              replace f3 : sv 3 = _ := f3
              try dsimp only at f3
              replace f4 : sv 4 = _ := f4
              try dsimp only at f4
              replace f5 : sv 5 = _ := f5
              try dsimp only at f5
              replace f6 : sv 6 = _ := f6
              try dsimp only at f6
              replace f7 : sv 7 = _ := f7
              try dsimp only at f7
              replace f8 : sv 8 = _ := f8
              try dsimp only at f8
              replace f9 : sv 9 = _ := f9
              try dsimp only at f9
              replace f10 : sv 10 = _ := f10
              try dsimp only at f10
              replace f11 : sv 11 = _ := f11
              try dsimp only at f11
              replace f12 : sv 12 = _ := f12
              try dsimp only at f12
              replace f13 : sv 13 = _ := f13
              try dsimp only at f13
              replace f14 : sv 14 = _ := f14
              try dsimp only at f14
              replace f15 : sv 15 = _ := f15
              try dsimp only at f15
              replace f16 : sv 16 = _ := f16
              try dsimp only at f16
              replace f17 : sv 17 = _ := f17
              try dsimp only at f17
              replace f18 : sv 18 = _ := f18
              try dsimp only at f18
              replace f19 : sv 19 = _ := f19
              try dsimp only at f19
              replace f20 : sv 20 = _ := f20
              try dsimp only at f20
              obtain ⟨g21, f21, l21, b21⟩ := f21
              replace f21 : sv 21 = _ := f21
              obtain ⟨p21, q21⟩ := b21.walk
              replace f22 : sv 22 = _ := f22
              try dsimp only at f22
              replace f23 : sv 23 = _ := f23
              try dsimp only at f23
              replace f24 : sv 24 = _ := f24
              try dsimp only at f24
              obtain ⟨hc, hf, hz9⟩ := (hbk.drew.trans hw').walk; obtain ⟨hc2, hf2, hz8⟩ := ((Ext.refl w2).drew.trans hw').walk; have y0 := (hc _ (off + j * 3) hbw).trans d0; have y1 := (hc _ (off + j * 3 + 1) hbw).trans d1; have x0 := (hc2 _ 0 hX2.lt).trans (hX2.cell 0); have x1 := (hc2 _ 1 hX2.lt).trans (hX2.cell 1)
              refine ⟨rfl, ?_⟩
              simp only [putsL]
              change quietTo _ _ _ _ (Sem.run _ (execOp (Act.eval (Act.put (Act.put (Act.put (Act.put (Act.put (Act.put (Act.put (Act.put (Act.put (Act.put (Act.put (Act.put (Act.put (Act.put (Act.put (Act.put (Act.put (Act.put (Act.put (Act.put (Act.put (Act.put (Act.put (Act.put (Act.put _ (some 62) (sv 24)) (some 61) (sv 23)) (some 60) (sv 22)) (some 59) (sv 21)) (some 58) (sv 20)) (some 57) (sv 19)) (some 56) (sv 18)) (some 55) (sv 17)) (some 54) (sv 16)) (some 53) (sv 15)) (some 52) (sv 14)) (some 51) (sv 13)) (some 50) (sv 12)) (some 49) (sv 11)) (some 48) (sv 10)) (some 47) (sv 9)) (some 46) (sv 8)) (some 45) (sv 7)) (some 44) (sv 6)) (some 43) (sv 5)) (some 42) (sv 4)) (some 41) (sv 3)) (some 40) (sv 2)) (some 39) (sv 1)) (some 38) (sv 0))) _) _)
              try simp only [Act.put, List.setIfInBounds_toArray, List.set_cons_succ, List.set_cons_zero]
              simp [go_sem, quietTo, Ext.refl, f24]
              all_goals try simp (disch := omega) only [IntWalk.i64_in]
              all_goals first
                | rfl
            refine fac_nil fun xb wrb herb hfrb hcrb holdb hapb => ?_
            obtain ⟨f0, f1, f2, f3, f4, f5, f6, f7, f8, f9, f10, f11, f12, f13, f14, f15, f16, f17, f18, f19, f20, f21, f22, f23, f24, f25, -⟩ := hfrb
            replace f0 : xb 0 = _ := f0
            try dsimp only at f0
            replace f1 : xb 1 = _ := f1
            try dsimp only at f1
            replace f2 : xb 2 = _ := f2
            try dsimp only at f2
            replace f3 : xb 3 = _ := f3
            try dsimp only at f3
            replace f4 : xb 4 = _ := f4
            try dsimp only at f4
            replace f5 : xb 5 = _ := f5
            try dsimp only at f5
            replace f6 : xb 6 = _ := f6
            try dsimp only at f6
            replace f7 : xb 7 = _ := f7
            try dsimp only at f7
            replace f8 : xb 8 = _ := f8
            try dsimp only at f8
            replace f9 : xb 9 = _ := f9
            try dsimp only at f9
            replace f10 : xb 10 = _ := f10
            try dsimp only at f10
            replace f11 : xb 11 = _ := f11
            try dsimp only at f11
            replace f12 : xb 12 = _ := f12
            try dsimp only at f12
            replace f13 : xb 13 = _ := f13
            try dsimp only at f13
            replace f14 : xb 14 = _ := f14
            try dsimp only at f14
            replace f15 : xb 15 = _ := f15
            try dsimp only at f15
            replace f16 : xb 16 = _ := f16
            try dsimp only at f16
            replace f17 : xb 17 = _ := f17
            try dsimp only at f17
            replace f18 : xb 18 = _ := f18
            try dsimp only at f18
            replace f19 : xb 19 = _ := f19
            try dsimp only at f19
            replace f20 : xb 20 = _ := f20
            try dsimp only at f20
            obtain ⟨g21, f21, l21, b21⟩ := f21
            replace f21 : xb 21 = _ := f21
            obtain ⟨p21, q21⟩ := b21.walk
            replace f22 : xb 22 = _ := f22
            try dsimp only at f22
            replace f23 : xb 23 = _ := f23
            try dsimp only at f23
            replace f24 : xb 24 = _ := f24
            try dsimp only at f24
            replace f25 : xb 25 = _ := f25
            try dsimp only at f25
            change wpList _ _ _ _ (Act.put (Act.put (Act.put (Act.put (Act.put (Act.put (Act.put (Act.put (Act.put (Act.put (Act.put (Act.put (Act.put (Act.put (Act.put (Act.put (Act.put (Act.put (Act.put (Act.put (Act.put (Act.put (Act.put (Act.put (Act.put (Act.put _ (some 38) (xb 0)) (some 39) (xb 1)) (some 40) (xb 2)) (some 41) (xb 3)) (some 42) (xb 4)) (some 43) (xb 5)) (some 44) (xb 6)) (some 45) (xb 7)) (some 46) (xb 8)) (some 47) (xb 9)) (some 48) (xb 10)) (some 49) (xb 11)) (some 50) (xb 12)) (some 51) (xb 13)) (some 52) (xb 14)) (some 53) (xb 15)) (some 54) (xb 16)) (some 55) (xb 17)) (some 56) (xb 18)) (some 57) (xb 19)) (some 58) (xb 20)) (some 59) (xb 21)) (some 60) (xb 22)) (some 61) (xb 23)) (some 62) (xb 24)) (some 37) (xb 25)) _
            simp only [putsL, Nat.reduceAdd, List.drop_succ_cons, List.drop_zero, List.drop_nil, Act.put, List.setIfInBounds_toArray, List.set_cons_succ, List.set_cons_zero]
            try simp only [f0, f1, f2, f3, f4, f5, f6, f7, f8, f9, f10, f11, f12, f13, f14, f15, f16, f17, f18, f19, f20, f21, f22, f23, f24, f25]
            clear f0 f1 f2 f3 f4 f5 f6 f7 f8 f9 f10 f11 f12 f13 f14 f15 f16 f17 f18 f19 f20 f22 f23 f24 f25
            clear holdb hapb
            clear p2 q2 hb1 hb2 hX hX2 c0 c1 c2 d0 d1
            go_wp2
            first
              | (go_ret
                 exact ⟨ret_int (by rw [hF.out, if_neg h12]; exact scan_is hz hlt (by rw [hv.out, hk1, hk2, hk3, hk4, hlc]; simp) (by decide)), he2.trans ((Ext.refl _).drew.trans herb)⟩)
              | (go_roundw
                 case rel => exact ⟨j + 1 + 1, by omega, by go_num, hz.succ (by rw [hv.out, hk1, hk2, hk3, hk4, hlc]; simp), he2.trans ((Ext.refl _).drew.trans herb)⟩
                 case measure => simp [intOf]; omega)
      · go_wp2
        go_ret
        exact ⟨ret_int (by rw [hF.out, if_neg h12]; exact (scan_zero (by rw [show n = k by omega]; exact hz)).symm), he⟩

end Go.Proofs.YtlmbpgjdepmlcaaDoor
