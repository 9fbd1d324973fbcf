/- Who stands elsewhere, by the document's text: the walk. Conditions: two right lists of stands lie in memory. -/
import Derived.Test.YtakfanmoepiagaaGreatDoorSmJ41
set_option linter.unusedSimpArgs false
set_option linter.unusedVariables false
namespace Go.Proofs.YtakfanmoepiagaaGreatDoor
open Go Go.RowKit Go.Sort

section
variable {lp : Option Addr} {lc : Nat} {B : List StandV} {mp : Option Addr} {mc : Nat} {A : List StandV} {w : World}
set_option maxRecDepth 100000 in
set_option maxHeartbeats 1600000 in
theorem movedOf_any (hA : Slc 3 staC w mp A.length mc A) (nA : A.length ≤ 200) (sA : ∀ x ∈ A, x.Small) (dA : (namesS A).Nodup) (hB : Slc 3 staC w lp B.length lc B) (nB : B.length ≤ 200) (sB : ∀ x ∈ B, x.Small) (dB : (namesS B).Nodup) :
    Calls Tryz.prog 36 #[.slice mp A.length mc, .slice lp B.length lc] w fun e w' => ∃ (q : Option Addr) (c : Nat), e = .returned (.slice q (movR A B).length c) ∧ Slc 1 strC w' q (movR A B).length c (srtN (movR A B)) ∧ Ext w w' := by
  have hso := fun u (hu : Ext w u) nm => standOf_any (hB.ext hu) (by omega) nm
  replace hso := Lib.hid hso
  replace dB := Lib.hid dB
  replace dA := Lib.hid dA
  go_enter Tryz.func36, Tryz.ntmps36
  go_wp2
  go_loopw [5, 11] (fun v5 v11 wq => ∃ (k n : Nat) (v : Value), v5 = v ∧ v11 = .int .i64 k ∧ k ≤ A.length ∧ wq.ownsRow w.heap.size 9 1 v n ((movT A B k).flatMap strC) ∧ n = (movT A B k).length ∧ Ext w wq) (fun _ v11 _ => A.length - (intOf v11).toNat)
  case atStart => exact ⟨0, 0, _, rfl, rfl, Nat.zero_le _, World.ownsRow_nil _ _ _ _, rfl, Ext.refl _⟩
  case round =>
    obtain ⟨k, n, v, rfl, rfl, hk, hown, rfl, hE⟩ := hrel
    by_cases hlt : k < A.length
    · obtain ⟨x, hx⟩ := getD_some (rfl : A.length = A.length) hlt
      have hxs := (sA x (List.mem_of_getElem? hx)).1
      have hkI : (k : Int) < A.length := by omega
      rcases (slcC hA).2 with ⟨-, e⟩ | ⟨sb, so, rfl, hsb, hEl⟩
      · rw [e] at hx; cases hx
      obtain ⟨c0, c1, c2⟩ := (hEl.ext hE hsb).sta hx
      have hbw := Nat.lt_of_lt_of_le hsb hE.size
      have hEa : Ext wr (wr.alloc (.cells #[.string x.name, .int .i64 x.row, .int .i64 x.place] 46)) := (Ext.refl _).alloc _
      have hY : Blk (wr.alloc (.cells #[.string x.name, .int .i64 x.row, .int .i64 x.place] 46)) wr.heap.size 46 #[.string x.name, .int .i64 x.row, .int .i64 x.place] := Blk.new' rfl
      have hms := movT_succ (A := B) hx
      have hml := movT_len A B k
      have hown2 := own_ext hEa hown
      have hE2 := hE.trans hEa
      have hE2' := hE2
      replace hE2' := Lib.hid hE2'
      replace hown2 := Lib.hid hown2
      clear hEl hx hown hEa hE
      go_upto_region 6 with (go_at_call 76; (with_reducible refine Calls.mono (hso.out _ hE2'.out _) ?_); rintro e w1 ⟨i, rfl, hi, hb1⟩)
      have hE3 := hE2.trans hb1
      have hY1 := hY.ext hb1
      have hown3 := own_ext hb1 hown2.out
      have hws := hE3.size
      clear hE2 hE2' hY hown2 hb1 c0 c1 c2
      rcases hi with ⟨rfl, hno⟩ | ⟨j, y, hy, hyn, rfl⟩
      · rw [mov_none hno] at hms
        simp only [Bool.false_eq_true, if_false] at hms
        replace hms := Lib.hid hms
        replace hown3 := Lib.hid hown3
        have hz0 : ¬ ((0 : Int) ≤ -1) := by omega
        refine wp_region_facts [] [([], false, false), ([0], false, false), ([0, 1], false, false), ([0, 1, 2], false, false), ([0, 1, 2], false, false), ([0, 1, 2, 3, 4], false, false), ([0, 1, 2, 3, 4, 5], false, false), ([0, 1, 2], false, false), ([0, 1, 2, 3, 4, 5, 6, 7], false, false), ([0, 1, 2, 3, 4, 5, 6, 7, 8], false, false)] (Ext) Ext (fun _ => True) (by kernel_rfl) (by kernel_rfl) Ext.refl (fun _ _ _ => Ext.trans) (fun _ _ h => h) (fun _ _ h => h.size) (fun _ _ h _ => h) trivial ?_
        dsimp only [List.length_cons, List.length_nil, List.drop_succ_cons, List.drop_zero, List.drop_nil]
        refine fac_quiet 0 rfl rfl rfl (fun _ _ h _ => h) rfl rfl ?_
        apply Exists.intro
        refine ⟨fun sv w' hw' hfa => ?_, ?_⟩
        · refine ⟨rfl, ?_⟩
          simp only [putsL]
          change quietTo _ _ _ _ (Sem.run _ (execOp (Act.eval _) _) _)
          try simp only [Act.put, List.setIfInBounds_toArray, List.set_cons_succ, List.set_cons_zero]
          simp [go_sem, quietTo, Ext.refl]
          all_goals first
            | rfl
        refine fac_quiet 1 rfl rfl rfl (fun _ _ h _ => h) rfl rfl ?_
        apply Exists.intro
        refine ⟨fun sv w' hw' hfa => ?_, ?_⟩
        · obtain ⟨f0, -⟩ := hfa
          replace f0 : sv 0 = _ := f0
          try dsimp only at f0
          refine ⟨rfl, ?_⟩
          simp only [putsL]
          change quietTo _ _ _ _ (Sem.run _ (execOp (Act.eval (Act.put _ (some 19) (sv 0))) _) _)
          try simp only [Act.put, List.setIfInBounds_toArray, List.set_cons_succ, List.set_cons_zero]
          simp [go_sem, quietTo, Ext.refl, ↓IntWalk.iteOmega, f0, hz0]
          all_goals try simp (disch := omega) only [IntWalk.i64_in]
          all_goals first
            | rfl
        refine fac_quiet 2 rfl rfl rfl (fun _ _ h _ => h) rfl rfl ?_
        apply Exists.intro
        refine ⟨fun sv w' hw' hfa => ?_, ?_⟩
        · obtain ⟨_, f1, -⟩ := hfa
          replace f1 : sv 1 = _ := f1
          try dsimp only at f1
          refine ⟨rfl, ?_⟩
          simp only [putsL]
          change quietTo _ _ _ _ (Sem.run _ (execOp (Act.eval (Act.put (Act.put _ (some 20) (sv 1)) (some 19) (sv 0))) _) _)
          try simp only [Act.put, List.setIfInBounds_toArray, List.set_cons_succ, List.set_cons_zero]
          simp [go_sem, quietTo, Ext.refl, f1]
          all_goals first
            | rfl
        refine fac_skip 3 rfl rfl rfl (fun _ _ h _ => h) Ext.refl ?_ ?_
        · intro sv w' hw' hfa
          obtain ⟨f0, f1, f2, -⟩ := hfa
          replace f0 : sv 0 = _ := f0
          try dsimp only at f0
          replace f1 : sv 1 = _ := f1
          try dsimp only at f1
          replace f2 : sv 2 = _ := f2
          try dsimp only at f2
          simp [Region.wanted, yielded, putsL, Act.put, f2]
        refine fac_skip 4 rfl rfl rfl (fun _ _ h _ => h) Ext.refl ?_ ?_
        · intro sv w' hw' hfa
          obtain ⟨f0, f1, f2, -⟩ := hfa
          replace f0 : sv 0 = _ := f0
          try dsimp only at f0
          replace f1 : sv 1 = _ := f1
          try dsimp only at f1
          replace f2 : sv 2 = _ := f2
          try dsimp only at f2
          simp [Region.wanted, yielded, putsL, Act.put, f2]
        refine fac_skip 5 rfl rfl rfl (fun _ _ h _ => h) Ext.refl ?_ ?_
        · intro sv w' hw' hfa
          obtain ⟨f0, f1, f2, f3, f4, -⟩ := hfa
          replace f0 : sv 0 = _ := f0
          try dsimp only at f0
          replace f1 : sv 1 = _ := f1
          try dsimp only at f1
          replace f2 : sv 2 = _ := f2
          try dsimp only at f2
          replace f3 : sv 3 = _ := f3
          try dsimp only at f3
          replace f4 : sv 4 = _ := f4
          try dsimp only at f4
          simp [Region.wanted, yielded, putsL, Act.put, f2, f3, f4]
        refine fac_skip 6 rfl rfl rfl (fun _ _ h _ => h) Ext.refl ?_ ?_
        · intro sv w' hw' hfa
          obtain ⟨f0, f1, f2, f3, f4, f5, -⟩ := hfa
          replace f0 : sv 0 = _ := f0
          try dsimp only at f0
          replace f1 : sv 1 = _ := f1
          try dsimp only at f1
          replace f2 : sv 2 = _ := f2
          try dsimp only at f2
          replace f3 : sv 3 = _ := f3
          try dsimp only at f3
          replace f4 : sv 4 = _ := f4
          try dsimp only at f4
          replace f5 : sv 5 = _ := f5
          try dsimp only at f5
          simp [Region.wanted, yielded, putsL, Act.put, f2, f5]
        refine fac_skip 7 rfl rfl rfl (fun _ _ h _ => h) Ext.refl ?_ ?_
        · intro sv w' hw' hfa
          obtain ⟨f0, f1, f2, -⟩ := hfa
          replace f0 : sv 0 = _ := f0
          try dsimp only at f0
          replace f1 : sv 1 = _ := f1
          try dsimp only at f1
          replace f2 : sv 2 = _ := f2
          try dsimp only at f2
          simp [Region.wanted, yielded, putsL, Act.put, f2]
        refine fac_skip 8 rfl rfl rfl (fun _ _ h _ => h) Ext.refl ?_ ?_
        · intro sv w' hw' hfa
          obtain ⟨f0, f1, f2, f3, f4, f5, f6, f7, -⟩ := hfa
          replace f0 : sv 0 = _ := f0
          try dsimp only at f0
          replace f1 : sv 1 = _ := f1
          try dsimp only at f1
          replace f2 : sv 2 = _ := f2
          try dsimp only at f2
          replace f3 : sv 3 = _ := f3
          try dsimp only at f3
          replace f4 : sv 4 = _ := f4
          try dsimp only at f4
          replace f5 : sv 5 = _ := f5
          try dsimp only at f5
          replace f6 : sv 6 = _ := f6
          try dsimp only at f6
          replace f7 : sv 7 = _ := f7
          try dsimp only at f7
          simp [Region.wanted, yielded, putsL, Act.put, f2, f6, f7]
        refine fac_quiet 9 rfl rfl rfl (fun _ _ h _ => h) rfl rfl ?_
        apply Exists.intro
        refine ⟨fun sv w' hw' hfa => ?_, ?_⟩
        · obtain ⟨_, _, f2, _, _, _, _, _, f8, -⟩ := hfa
          replace f2 : sv 2 = _ := f2
          try dsimp only at f2
          replace f8 : sv 8 = _ := f8
          try dsimp only at f8
          refine ⟨rfl, ?_⟩
          simp only [putsL]
          change quietTo _ _ _ _ (Sem.run _ (execOp (Act.eval (Act.put (Act.put (Act.put (Act.put (Act.put (Act.put (Act.put (Act.put (Act.put _ (some 27) (sv 8)) (some 26) (sv 7)) (some 25) (sv 6)) (some 24) (sv 5)) (some 23) (sv 4)) (some 22) (sv 3)) (some 21) (sv 2)) (some 20) (sv 1)) (some 19) (sv 0))) _) _)
          try simp only [Act.put, List.setIfInBounds_toArray, List.set_cons_succ, List.set_cons_zero]
          simp [go_sem, quietTo, Ext.refl, ↓IntWalk.iteOmega, f2, f8, hz0]
          all_goals try simp (disch := omega) only [IntWalk.i64_in]
          all_goals first
            | rfl
        refine fac_nil fun xa wra hera hfra hcra holda hapa => ?_
        obtain ⟨f0, f1, f2, f3, f4, f5, f6, f7, f8, f9, -⟩ := hfra
        replace f0 : xa 0 = _ := f0
        try dsimp only at f0
        replace f1 : xa 1 = _ := f1
        try dsimp only at f1
        replace f2 : xa 2 = _ := f2
        try dsimp only at f2
        replace f3 : xa 3 = _ := f3
        try dsimp only at f3
        replace f4 : xa 4 = _ := f4
        try dsimp only at f4
        replace f5 : xa 5 = _ := f5
        try dsimp only at f5
        replace f6 : xa 6 = _ := f6
        try dsimp only at f6
        replace f7 : xa 7 = _ := f7
        try dsimp only at f7
        replace f8 : xa 8 = _ := f8
        try dsimp only at f8
        replace f9 : xa 9 = _ := f9
        try dsimp only at f9
        change wpList _ _ _ _ (Act.put (Act.put (Act.put (Act.put (Act.put (Act.put (Act.put (Act.put (Act.put (Act.put _ (some 19) (xa 0)) (some 20) (xa 1)) (some 21) (xa 2)) (some 22) (xa 3)) (some 23) (xa 4)) (some 24) (xa 5)) (some 25) (xa 6)) (some 26) (xa 7)) (some 27) (xa 8)) (some 28) (xa 9)) _
        simp only [putsL, Nat.reduceAdd, List.drop_succ_cons, List.drop_zero, List.drop_nil, Act.put, List.setIfInBounds_toArray, List.set_cons_succ, List.set_cons_zero]
        try simp only [f0, f1, f2, f3, f4, f5, f6, f7, f8, f9]
        clear f0 f1 f2 f3 f4 f5 f6 f7 f8 f9
        clear holda hapa
        go_wp2
        go_roundw
        case rel => exact ⟨k + 1, _, _, rfl, by go_num, by omega, by rw [hms.out]; exact own_ext ((Ext.refl _).drew.trans hera) hown3.out, by rw [hms.out], hE3.trans ((Ext.refl _).drew.trans hera)⟩
        case measure => simp [intOf]; omega
      · rw [mov_found dB.out hy hyn] at hms
        have hjl := (List.getElem?_eq_some_iff.1 hy).1
        have hjI : (j : Int) < B.length := by omega
        have hj0 : (0 : Int) ≤ j := by omega
        rcases (slcC hB).2 with ⟨-, e⟩ | ⟨tb, tof, rfl, htb, hFl⟩
        · rw [e] at hy; cases hy
        obtain ⟨d0, d1, d2⟩ := (hFl.ext hE3 htb).sta hy
        rw [hyn] at d0
        have hbt := Nat.lt_of_lt_of_le htb hE3.size
        clear hFl hy
        cases hd : difS y x
        · rw [hd] at hms
          simp only [Bool.false_eq_true, if_false] at hms
          obtain ⟨e1, e2⟩ : y.row = x.row ∧ y.place = x.place := by unfold difS at hd; simpa using hd
          rw [e1] at d1
          rw [e2] at d2
          replace hms := Lib.hid hms
          replace hown3 := Lib.hid hown3
          clear e1 e2 hd hyn
          refine wp_region_facts [] [([], false, false), ([0], false, false), ([0, 1], false, false), ([0, 1, 2], false, false), ([0, 1, 2], false, false), ([0, 1, 2, 3, 4], false, false), ([0, 1, 2, 3, 4, 5], false, false), ([0, 1, 2], false, false), ([0, 1, 2, 3, 4, 5, 6, 7], false, false), ([0, 1, 2, 3, 4, 5, 6, 7, 8], false, false)] (Ext) Ext (fun _ => True) (by kernel_rfl) (by kernel_rfl) Ext.refl (fun _ _ _ => Ext.trans) (fun _ _ h => h) (fun _ _ h => h.size) (fun _ _ h _ => h) trivial ?_
          dsimp only [List.length_cons, List.length_nil, List.drop_succ_cons, List.drop_zero, List.drop_nil]
          refine fac_quiet 0 rfl rfl rfl (fun _ _ h _ => h) rfl rfl ?_
          apply Exists.intro
          refine ⟨fun sv w' hw' hfa => ?_, ?_⟩
          · refine ⟨rfl, ?_⟩
            simp only [putsL]
            change quietTo _ _ _ _ (Sem.run _ (execOp (Act.eval _) _) _)
            try simp only [Act.put, List.setIfInBounds_toArray, List.set_cons_succ, List.set_cons_zero]
            simp [go_sem, quietTo, Ext.refl]
            all_goals first
              | rfl
          refine fac_quiet 1 rfl rfl rfl (fun _ _ h _ => h) rfl rfl ?_
          apply Exists.intro
          refine ⟨fun sv w' hw' hfa => ?_, ?_⟩
          · obtain ⟨f0, -⟩ := hfa
            replace f0 : sv 0 = _ := f0
            try dsimp only at f0
            have hk9 := (Ext.refl w1).drew.trans hw'; obtain ⟨hc, hff, hz9⟩ := hk9.walk; obtain ⟨y1, -⟩ := (hY1.ext hk9).walk; have u0 := (hc _ _ hbt).trans d0; have u1 := (hc _ _ hbt).trans d1; have u2 := (hc _ _ hbt).trans d2
            refine ⟨rfl, ?_⟩
            simp only [putsL]
            change quietTo _ _ _ _ (Sem.run _ (execOp (Act.eval (Act.put _ (some 19) (sv 0))) _) _)
            try simp only [Act.put, List.setIfInBounds_toArray, List.set_cons_succ, List.set_cons_zero]
            simp [go_sem, quietTo, Ext.refl, ↓IntWalk.iteOmega, f0, hj0]
            all_goals try simp (disch := omega) only [IntWalk.i64_in]
            all_goals first
              | rfl
          refine fac_quiet 2 rfl rfl rfl (fun _ _ h _ => h) rfl rfl ?_
          apply Exists.intro
          refine ⟨fun sv w' hw' hfa => ?_, ?_⟩
          · obtain ⟨_, f1, -⟩ := hfa
            replace f1 : sv 1 = _ := f1
            try dsimp only at f1
            refine ⟨rfl, ?_⟩
            simp only [putsL]
            change quietTo _ _ _ _ (Sem.run _ (execOp (Act.eval (Act.put (Act.put _ (some 20) (sv 1)) (some 19) (sv 0))) _) _)
            try simp only [Act.put, List.setIfInBounds_toArray, List.set_cons_succ, List.set_cons_zero]
            simp [go_sem, quietTo, Ext.refl, f1]
            all_goals first
              | rfl
          refine fac_quiet 3 rfl rfl rfl (fun _ _ h _ => h) rfl rfl ?_
          apply Exists.intro
          refine ⟨fun sv w' hw' hfa => ?_, ?_⟩
          · obtain ⟨_, _, f2, -⟩ := hfa
            replace f2 : sv 2 = _ := f2
            try dsimp only at f2
            refine ⟨by simp [Region.wanted, yielded, putsL, Act.put, f2], ?_⟩
            simp only [putsL]
            change quietTo _ _ _ _ (Sem.run _ (execOp (Act.eval (Act.put (Act.put (Act.put _ (some 21) (sv 2)) (some 20) (sv 1)) (some 19) (sv 0))) _) _)
            try simp only [Act.put, List.setIfInBounds_toArray, List.set_cons_succ, List.set_cons_zero]
            simp [go_sem, quietTo, Ext.refl, f2]
            all_goals first
              | rfl
          refine fac_quiet 4 rfl rfl rfl (fun _ _ h _ => h) rfl rfl ?_
          apply Exists.intro
          refine ⟨fun sv w' hw' hfa => ?_, ?_⟩
          · obtain ⟨_, _, f2, -⟩ := hfa
            replace f2 : sv 2 = _ := f2
            try dsimp only at f2
            refine ⟨by simp [Region.wanted, yielded, putsL, Act.put, f2], ?_⟩
            simp only [putsL]
            change quietTo _ _ _ _ (Sem.run _ (execOp (Act.eval (Act.put (Act.put (Act.put _ (some 21) (sv 2)) (some 20) (sv 1)) (some 19) (sv 0))) _) _)
            try simp only [Act.put, List.setIfInBounds_toArray, List.set_cons_succ, List.set_cons_zero]
            simp [go_sem, quietTo, Ext.refl, f2]
            all_goals first
              | rfl
          refine fac_quiet 5 rfl rfl rfl (fun _ _ h _ => h) rfl rfl ?_
          apply Exists.intro
          refine ⟨fun sv w' hw' hfa => ?_, ?_⟩
          · obtain ⟨_, _, f2, f3, f4, -⟩ := hfa
            replace f2 : sv 2 = _ := f2
            try dsimp only at f2
            replace f3 : sv 3 = _ := f3
            try dsimp only at f3
            replace f4 : sv 4 = _ := f4
            try dsimp only at f4
            have hk9 := (Ext.refl w1).drew.trans hw'; obtain ⟨hc, hff, hz9⟩ := hk9.walk; obtain ⟨y1, -⟩ := (hY1.ext hk9).walk; have u0 := (hc _ _ hbt).trans d0; have u1 := (hc _ _ hbt).trans d1; have u2 := (hc _ _ hbt).trans d2
            refine ⟨by simp [Region.wanted, yielded, putsL, Act.put, f2, f3, f4], ?_⟩
            simp only [putsL]
            change quietTo _ _ _ _ (Sem.run _ (execOp (Act.eval (Act.put (Act.put (Act.put (Act.put (Act.put _ (some 23) (sv 4)) (some 22) (sv 3)) (some 21) (sv 2)) (some 20) (sv 1)) (some 19) (sv 0))) _) _)
            try simp only [Act.put, List.setIfInBounds_toArray, List.set_cons_succ, List.set_cons_zero]
            simp [go_sem, quietTo, Ext.refl, ↓IntWalk.iteOmega, f2, f3, f4, hjI]
            all_goals try simp (disch := omega) only [IntWalk.i64_in]
            all_goals first
              | rfl
          refine fac_quiet 6 rfl rfl rfl (fun _ _ h _ => h) rfl rfl ?_
          apply Exists.intro
          refine ⟨fun sv w' hw' hfa => ?_, ?_⟩
          · obtain ⟨_, _, f2, _, _, f5, -⟩ := hfa
            replace f2 : sv 2 = _ := f2
            try dsimp only at f2
            replace f5 : sv 5 = _ := f5
            try dsimp only at f5
            have hk9 := (Ext.refl w1).drew.trans hw'; obtain ⟨hc, hff, hz9⟩ := hk9.walk; obtain ⟨y1, -⟩ := (hY1.ext hk9).walk; have u0 := (hc _ _ hbt).trans d0; have u1 := (hc _ _ hbt).trans d1; have u2 := (hc _ _ hbt).trans d2
            refine ⟨by simp [Region.wanted, yielded, putsL, Act.put, f2, f5], ?_⟩
            simp only [putsL]
            change quietTo _ _ _ _ (Sem.run _ (execOp (Act.eval (Act.put (Act.put (Act.put (Act.put (Act.put (Act.put _ (some 24) (sv 5)) (some 23) (sv 4)) (some 22) (sv 3)) (some 21) (sv 2)) (some 20) (sv 1)) (some 19) (sv 0))) _) _)
            try simp only [Act.put, List.setIfInBounds_toArray, List.set_cons_succ, List.set_cons_zero]
            simp [go_sem, quietTo, Ext.refl, ↓IntWalk.iteOmega, f2, f5, u0, u1, u2]
            all_goals try simp (disch := omega) only [IntWalk.i64_in]
            all_goals first
              | rfl
          refine fac_quiet 7 rfl rfl rfl (fun _ _ h _ => h) rfl rfl ?_
          apply Exists.intro
          refine ⟨fun sv w' hw' hfa => ?_, ?_⟩
          · obtain ⟨_, _, f2, -⟩ := hfa
            replace f2 : sv 2 = _ := f2
            try dsimp only at f2
            have hk9 := (Ext.refl w1).drew.trans hw'; obtain ⟨hc, hff, hz9⟩ := hk9.walk; obtain ⟨y1, -⟩ := (hY1.ext hk9).walk; have u0 := (hc _ _ hbt).trans d0; have u1 := (hc _ _ hbt).trans d1; have u2 := (hc _ _ hbt).trans d2
            refine ⟨by simp [Region.wanted, yielded, putsL, Act.put, f2], ?_⟩
            simp only [putsL]
            change quietTo _ _ _ _ (Sem.run _ (execOp (Act.eval (Act.put (Act.put (Act.put _ (some 21) (sv 2)) (some 20) (sv 1)) (some 19) (sv 0))) _) _)
            try simp only [Act.put, List.setIfInBounds_toArray, List.set_cons_succ, List.set_cons_zero]
            simp [go_sem, quietTo, Ext.refl, ↓IntWalk.iteOmega, f2, y1]
            all_goals try simp (disch := omega) only [IntWalk.i64_in]
            all_goals first
              | rfl
          refine fac_quiet 8 rfl rfl rfl (fun _ _ h _ => h) rfl rfl ?_
          apply Exists.intro
          refine ⟨fun sv w' hw' hfa => ?_, ?_⟩
          · obtain ⟨_, _, f2, _, _, _, f6, f7, -⟩ := hfa
            replace f2 : sv 2 = _ := f2
            try dsimp only at f2
            replace f6 : sv 6 = _ := f6
            try dsimp only at f6
            replace f7 : sv 7 = _ := f7
            try dsimp only at f7
            refine ⟨by simp [Region.wanted, yielded, putsL, Act.put, f2, f6, f7], ?_⟩
            simp only [putsL]
            change quietTo _ _ _ _ (Sem.run _ (execOp (Act.eval (Act.put (Act.put (Act.put (Act.put (Act.put (Act.put (Act.put (Act.put _ (some 26) (sv 7)) (some 25) (sv 6)) (some 24) (sv 5)) (some 23) (sv 4)) (some 22) (sv 3)) (some 21) (sv 2)) (some 20) (sv 1)) (some 19) (sv 0))) _) _)
            try simp only [Act.put, List.setIfInBounds_toArray, List.set_cons_succ, List.set_cons_zero]
            simp [go_sem, quietTo, Ext.refl, ↓IntWalk.iteOmega, f2, f6, f7]
            all_goals try simp (disch := omega) only [IntWalk.i64_in]
            all_goals first
              | rfl
          refine fac_quiet 9 rfl rfl rfl (fun _ _ h _ => h) rfl rfl ?_
          apply Exists.intro
          refine ⟨fun sv w' hw' hfa => ?_, ?_⟩
          · obtain ⟨_, _, f2, _, _, _, _, _, f8, -⟩ := hfa
            replace f2 : sv 2 = _ := f2
            try dsimp only at f2
            replace f8 : sv 8 = _ := f8
            try dsimp only at f8
            refine ⟨rfl, ?_⟩
            simp only [putsL]
            change quietTo _ _ _ _ (Sem.run _ (execOp (Act.eval (Act.put (Act.put (Act.put (Act.put (Act.put (Act.put (Act.put (Act.put (Act.put _ (some 27) (sv 8)) (some 26) (sv 7)) (some 25) (sv 6)) (some 24) (sv 5)) (some 23) (sv 4)) (some 22) (sv 3)) (some 21) (sv 2)) (some 20) (sv 1)) (some 19) (sv 0))) _) _)
            try simp only [Act.put, List.setIfInBounds_toArray, List.set_cons_succ, List.set_cons_zero]
            simp [go_sem, quietTo, Ext.refl, ↓IntWalk.iteOmega, f2, f8]
            all_goals try simp (disch := omega) only [IntWalk.i64_in]
            all_goals first
              | rfl
          refine fac_nil fun xb wrb herb hfrb hcrb holdb hapb => ?_
          obtain ⟨f0, f1, f2, f3, f4, f5, f6, f7, f8, f9, -⟩ := hfrb
          replace f0 : xb 0 = _ := f0
          try dsimp only at f0
          replace f1 : xb 1 = _ := f1
          try dsimp only at f1
          replace f2 : xb 2 = _ := f2
          try dsimp only at f2
          replace f3 : xb 3 = _ := f3
          try dsimp only at f3
          replace f4 : xb 4 = _ := f4
          try dsimp only at f4
          replace f5 : xb 5 = _ := f5
          try dsimp only at f5
          replace f6 : xb 6 = _ := f6
          try dsimp only at f6
          replace f7 : xb 7 = _ := f7
          try dsimp only at f7
          replace f8 : xb 8 = _ := f8
          try dsimp only at f8
          replace f9 : xb 9 = _ := f9
          try dsimp only at f9
          change wpList _ _ _ _ (Act.put (Act.put (Act.put (Act.put (Act.put (Act.put (Act.put (Act.put (Act.put (Act.put _ (some 19) (xb 0)) (some 20) (xb 1)) (some 21) (xb 2)) (some 22) (xb 3)) (some 23) (xb 4)) (some 24) (xb 5)) (some 25) (xb 6)) (some 26) (xb 7)) (some 27) (xb 8)) (some 28) (xb 9)) _
          simp only [putsL, Nat.reduceAdd, List.drop_succ_cons, List.drop_zero, List.drop_nil, Act.put, List.setIfInBounds_toArray, List.set_cons_succ, List.set_cons_zero]
          try simp only [f0, f1, f2, f3, f4, f5, f6, f7, f8, f9]
          clear f0 f1 f2 f3 f4 f5 f6 f7 f8 f9
          clear holdb hapb
          go_wp2
          go_roundw
          case rel => exact ⟨k + 1, _, _, rfl, by go_num, by omega, by rw [hms.out]; exact own_ext ((Ext.refl _).drew.trans herb) hown3.out, by rw [hms.out], hE3.trans ((Ext.refl _).drew.trans herb)⟩
          case measure => simp [intOf]; omega
        · rw [hd] at hms
          simp only [if_true] at hms
          have hl6 : (movT A B k ++ [x.name]).length = (movT A B k).length + 1 := by simp
          replace hms := Lib.hid hms
          replace hl6 := Lib.hid hl6
          replace hown3 := Lib.hid hown3
          clear hyn
          by_cases h1 : y.row = x.row
          · have h2 : y.place ≠ x.place := fun e => by unfold difS at hd; rw [h1, e] at hd; simp at hd
            have h2 : (y.place == x.place) = false := by simpa using h2
            rw [h1] at d1
            clear hd h1
            refine wp_region_facts [] [([], false, false), ([0], false, false), ([0, 1], false, false), ([0, 1, 2], false, false), ([0, 1, 2], false, false), ([0, 1, 2, 3, 4], false, false), ([0, 1, 2, 3, 4, 5], false, false), ([0, 1, 2], false, false), ([0, 1, 2, 3, 4, 5, 6, 7], false, false), ([0, 1, 2, 3, 4, 5, 6, 7, 8], false, false)] (Ext) Ext (fun _ => True) (by kernel_rfl) (by kernel_rfl) Ext.refl (fun _ _ _ => Ext.trans) (fun _ _ h => h) (fun _ _ h => h.size) (fun _ _ h _ => h) trivial ?_
            dsimp only [List.length_cons, List.length_nil, List.drop_succ_cons, List.drop_zero, List.drop_nil]
            refine fac_quiet 0 rfl rfl rfl (fun _ _ h _ => h) rfl rfl ?_
            apply Exists.intro
            refine ⟨fun sv w' hw' hfa => ?_, ?_⟩
            · refine ⟨rfl, ?_⟩
              simp only [putsL]
              change quietTo _ _ _ _ (Sem.run _ (execOp (Act.eval _) _) _)
              try simp only [Act.put, List.setIfInBounds_toArray, List.set_cons_succ, List.set_cons_zero]
              simp [go_sem, quietTo, Ext.refl]
              all_goals first
                | rfl
            refine fac_quiet 1 rfl rfl rfl (fun _ _ h _ => h) rfl rfl ?_
            apply Exists.intro
            refine ⟨fun sv w' hw' hfa => ?_, ?_⟩
            · obtain ⟨f0, -⟩ := hfa
              replace f0 : sv 0 = _ := f0
              try dsimp only at f0
              have hk9 := (Ext.refl w1).drew.trans hw'; obtain ⟨hc, hff, hz9⟩ := hk9.walk; obtain ⟨y1, -⟩ := (hY1.ext hk9).walk; have u0 := (hc _ _ hbt).trans d0; have u1 := (hc _ _ hbt).trans d1; have u2 := (hc _ _ hbt).trans d2
              refine ⟨rfl, ?_⟩
              simp only [putsL]
              change quietTo _ _ _ _ (Sem.run _ (execOp (Act.eval (Act.put _ (some 19) (sv 0))) _) _)
              try simp only [Act.put, List.setIfInBounds_toArray, List.set_cons_succ, List.set_cons_zero]
              simp [go_sem, quietTo, Ext.refl, ↓IntWalk.iteOmega, f0, hj0]
              all_goals try simp (disch := omega) only [IntWalk.i64_in]
              all_goals first
                | rfl
            refine fac_quiet 2 rfl rfl rfl (fun _ _ h _ => h) rfl rfl ?_
            apply Exists.intro
            refine ⟨fun sv w' hw' hfa => ?_, ?_⟩
            · obtain ⟨_, f1, -⟩ := hfa
              replace f1 : sv 1 = _ := f1
              try dsimp only at f1
              refine ⟨rfl, ?_⟩
              simp only [putsL]
              change quietTo _ _ _ _ (Sem.run _ (execOp (Act.eval (Act.put (Act.put _ (some 20) (sv 1)) (some 19) (sv 0))) _) _)
              try simp only [Act.put, List.setIfInBounds_toArray, List.set_cons_succ, List.set_cons_zero]
              simp [go_sem, quietTo, Ext.refl, f1]
              all_goals first
                | rfl
            refine fac_quiet 3 rfl rfl rfl (fun _ _ h _ => h) rfl rfl ?_
            apply Exists.intro
            refine ⟨fun sv w' hw' hfa => ?_, ?_⟩
            · obtain ⟨_, _, f2, -⟩ := hfa
              replace f2 : sv 2 = _ := f2
              try dsimp only at f2
              refine ⟨by simp [Region.wanted, yielded, putsL, Act.put, f2], ?_⟩
              simp only [putsL]
              change quietTo _ _ _ _ (Sem.run _ (execOp (Act.eval (Act.put (Act.put (Act.put _ (some 21) (sv 2)) (some 20) (sv 1)) (some 19) (sv 0))) _) _)
              try simp only [Act.put, List.setIfInBounds_toArray, List.set_cons_succ, List.set_cons_zero]
              simp [go_sem, quietTo, Ext.refl, f2]
              all_goals first
                | rfl
            refine fac_quiet 4 rfl rfl rfl (fun _ _ h _ => h) rfl rfl ?_
            apply Exists.intro
            refine ⟨fun sv w' hw' hfa => ?_, ?_⟩
            · obtain ⟨_, _, f2, -⟩ := hfa
              replace f2 : sv 2 = _ := f2
              try dsimp only at f2
              refine ⟨by simp [Region.wanted, yielded, putsL, Act.put, f2], ?_⟩
              simp only [putsL]
              change quietTo _ _ _ _ (Sem.run _ (execOp (Act.eval (Act.put (Act.put (Act.put _ (some 21) (sv 2)) (some 20) (sv 1)) (some 19) (sv 0))) _) _)
              try simp only [Act.put, List.setIfInBounds_toArray, List.set_cons_succ, List.set_cons_zero]
              simp [go_sem, quietTo, Ext.refl, f2]
              all_goals first
                | rfl
            refine fac_quiet 5 rfl rfl rfl (fun _ _ h _ => h) rfl rfl ?_
            apply Exists.intro
            refine ⟨fun sv w' hw' hfa => ?_, ?_⟩
            · obtain ⟨_, _, f2, f3, f4, -⟩ := hfa
              replace f2 : sv 2 = _ := f2
              try dsimp only at f2
              replace f3 : sv 3 = _ := f3
              try dsimp only at f3
              replace f4 : sv 4 = _ := f4
              try dsimp only at f4
              have hk9 := (Ext.refl w1).drew.trans hw'; obtain ⟨hc, hff, hz9⟩ := hk9.walk; obtain ⟨y1, -⟩ := (hY1.ext hk9).walk; have u0 := (hc _ _ hbt).trans d0; have u1 := (hc _ _ hbt).trans d1; have u2 := (hc _ _ hbt).trans d2
              refine ⟨by simp [Region.wanted, yielded, putsL, Act.put, f2, f3, f4], ?_⟩
              simp only [putsL]
              change quietTo _ _ _ _ (Sem.run _ (execOp (Act.eval (Act.put (Act.put (Act.put (Act.put (Act.put _ (some 23) (sv 4)) (some 22) (sv 3)) (some 21) (sv 2)) (some 20) (sv 1)) (some 19) (sv 0))) _) _)
              try simp only [Act.put, List.setIfInBounds_toArray, List.set_cons_succ, List.set_cons_zero]
              simp [go_sem, quietTo, Ext.refl, ↓IntWalk.iteOmega, f2, f3, f4, hjI]
              all_goals try simp (disch := omega) only [IntWalk.i64_in]
              all_goals first
                | rfl
            refine fac_quiet 6 rfl rfl rfl (fun _ _ h _ => h) rfl rfl ?_
            apply Exists.intro
            refine ⟨fun sv w' hw' hfa => ?_, ?_⟩
            · obtain ⟨_, _, f2, _, _, f5, -⟩ := hfa
              replace f2 : sv 2 = _ := f2
              try dsimp only at f2
              replace f5 : sv 5 = _ := f5
              try dsimp only at f5
              have hk9 := (Ext.refl w1).drew.trans hw'; obtain ⟨hc, hff, hz9⟩ := hk9.walk; obtain ⟨y1, -⟩ := (hY1.ext hk9).walk; have u0 := (hc _ _ hbt).trans d0; have u1 := (hc _ _ hbt).trans d1; have u2 := (hc _ _ hbt).trans d2
              refine ⟨by simp [Region.wanted, yielded, putsL, Act.put, f2, f5], ?_⟩
              simp only [putsL]
              change quietTo _ _ _ _ (Sem.run _ (execOp (Act.eval (Act.put (Act.put (Act.put (Act.put (Act.put (Act.put _ (some 24) (sv 5)) (some 23) (sv 4)) (some 22) (sv 3)) (some 21) (sv 2)) (some 20) (sv 1)) (some 19) (sv 0))) _) _)
              try simp only [Act.put, List.setIfInBounds_toArray, List.set_cons_succ, List.set_cons_zero]
              simp [go_sem, quietTo, Ext.refl, ↓IntWalk.iteOmega, f2, f5, u0, u1, u2]
              all_goals try simp (disch := omega) only [IntWalk.i64_in]
              all_goals first
                | rfl
            refine fac_quiet 7 rfl rfl rfl (fun _ _ h _ => h) rfl rfl ?_
            apply Exists.intro
            refine ⟨fun sv w' hw' hfa => ?_, ?_⟩
            · obtain ⟨_, _, f2, -⟩ := hfa
              replace f2 : sv 2 = _ := f2
              try dsimp only at f2
              have hk9 := (Ext.refl w1).drew.trans hw'; obtain ⟨hc, hff, hz9⟩ := hk9.walk; obtain ⟨y1, -⟩ := (hY1.ext hk9).walk; have u0 := (hc _ _ hbt).trans d0; have u1 := (hc _ _ hbt).trans d1; have u2 := (hc _ _ hbt).trans d2
              refine ⟨by simp [Region.wanted, yielded, putsL, Act.put, f2], ?_⟩
              simp only [putsL]
              change quietTo _ _ _ _ (Sem.run _ (execOp (Act.eval (Act.put (Act.put (Act.put _ (some 21) (sv 2)) (some 20) (sv 1)) (some 19) (sv 0))) _) _)
              try simp only [Act.put, List.setIfInBounds_toArray, List.set_cons_succ, List.set_cons_zero]
              simp [go_sem, quietTo, Ext.refl, ↓IntWalk.iteOmega, f2, y1]
              all_goals try simp (disch := omega) only [IntWalk.i64_in]
              all_goals first
                | rfl
            refine fac_quiet 8 rfl rfl rfl (fun _ _ h _ => h) rfl rfl ?_
            apply Exists.intro
            refine ⟨fun sv w' hw' hfa => ?_, ?_⟩
            · obtain ⟨_, _, f2, _, _, _, f6, f7, -⟩ := hfa
              replace f2 : sv 2 = _ := f2
              try dsimp only at f2
              replace f6 : sv 6 = _ := f6
              try dsimp only at f6
              replace f7 : sv 7 = _ := f7
              try dsimp only at f7
              have hk9 := (Ext.refl w1).drew.trans hw'; obtain ⟨hc, hff, hz9⟩ := hk9.walk; obtain ⟨y1, -⟩ := (hY1.ext hk9).walk; have u0 := (hc _ _ hbt).trans d0; have u1 := (hc _ _ hbt).trans d1; have u2 := (hc _ _ hbt).trans d2
              refine ⟨by simp [Region.wanted, yielded, putsL, Act.put, f2, f6, f7], ?_⟩
              simp only [putsL]
              change quietTo _ _ _ _ (Sem.run _ (execOp (Act.eval (Act.put (Act.put (Act.put (Act.put (Act.put (Act.put (Act.put (Act.put _ (some 26) (sv 7)) (some 25) (sv 6)) (some 24) (sv 5)) (some 23) (sv 4)) (some 22) (sv 3)) (some 21) (sv 2)) (some 20) (sv 1)) (some 19) (sv 0))) _) _)
              try simp only [Act.put, List.setIfInBounds_toArray, List.set_cons_succ, List.set_cons_zero]
              simp [go_sem, quietTo, Ext.refl, ↓IntWalk.iteOmega, f2, f6, f7, h2]
              all_goals try simp (disch := omega) only [IntWalk.i64_in]
              all_goals first
                | rfl
            refine fac_quiet 9 rfl rfl rfl (fun _ _ h _ => h) rfl rfl ?_
            apply Exists.intro
            refine ⟨fun sv w' hw' hfa => ?_, ?_⟩
            · obtain ⟨_, _, f2, _, _, _, _, _, f8, -⟩ := hfa
              replace f2 : sv 2 = _ := f2
              try dsimp only at f2
              replace f8 : sv 8 = _ := f8
              try dsimp only at f8
              refine ⟨rfl, ?_⟩
              simp only [putsL]
              change quietTo _ _ _ _ (Sem.run _ (execOp (Act.eval (Act.put (Act.put (Act.put (Act.put (Act.put (Act.put (Act.put (Act.put (Act.put _ (some 27) (sv 8)) (some 26) (sv 7)) (some 25) (sv 6)) (some 24) (sv 5)) (some 23) (sv 4)) (some 22) (sv 3)) (some 21) (sv 2)) (some 20) (sv 1)) (some 19) (sv 0))) _) _)
              try simp only [Act.put, List.setIfInBounds_toArray, List.set_cons_succ, List.set_cons_zero]
              simp [go_sem, quietTo, Ext.refl, ↓IntWalk.iteOmega, f2, f8]
              all_goals try simp (disch := omega) only [IntWalk.i64_in]
              all_goals first
                | rfl
            refine fac_nil fun xc wrc herc hfrc hcrc holdc hapc => ?_
            obtain ⟨f0, f1, f2, f3, f4, f5, f6, f7, f8, f9, -⟩ := hfrc
            replace f0 : xc 0 = _ := f0
            try dsimp only at f0
            replace f1 : xc 1 = _ := f1
            try dsimp only at f1
            replace f2 : xc 2 = _ := f2
            try dsimp only at f2
            replace f3 : xc 3 = _ := f3
            try dsimp only at f3
            replace f4 : xc 4 = _ := f4
            try dsimp only at f4
            replace f5 : xc 5 = _ := f5
            try dsimp only at f5
            replace f6 : xc 6 = _ := f6
            try dsimp only at f6
            replace f7 : xc 7 = _ := f7
            try dsimp only at f7
            replace f8 : xc 8 = _ := f8
            try dsimp only at f8
            replace f9 : xc 9 = _ := f9
            try dsimp only at f9
            change wpList _ _ _ _ (Act.put (Act.put (Act.put (Act.put (Act.put (Act.put (Act.put (Act.put (Act.put (Act.put _ (some 19) (xc 0)) (some 20) (xc 1)) (some 21) (xc 2)) (some 22) (xc 3)) (some 23) (xc 4)) (some 24) (xc 5)) (some 25) (xc 6)) (some 26) (xc 7)) (some 27) (xc 8)) (some 28) (xc 9)) _
            simp only [putsL, Nat.reduceAdd, List.drop_succ_cons, List.drop_zero, List.drop_nil, Act.put, List.setIfInBounds_toArray, List.set_cons_succ, List.set_cons_zero]
            try simp only [f0, f1, f2, f3, f4, f5, f6, f7, f8, f9]
            clear f0 f1 f2 f3 f4 f5 f6 f7 f8 f9
            clear holdc hapc
            obtain ⟨q1, -⟩ := (hY1.ext ((Ext.refl _).drew.trans herc)).walk
            have ql := (hY1.ext ((Ext.refl _).drew.trans herc)).lt
            have ho6 := (own_ext ((Ext.refl _).drew.trans herc) hown3.out).alloc (.cells #[.string x.name] 9)
            go_wp2_with (at_builtin; go_loud (refine wp_app1 _ (.tmp 29) (.tmp 32) 48 9 1 16 _ rfl rfl Tryz.underlying48 strInfo rfl (by decide) (by decide) w.heap.size _ _ _ rfl ho6 _ (strC x.name) rfl rfl (Blk.new' (by simp)) (by simp [strC, Value.oneCell']) (by omega) (by have := herc.size; simp at this ⊢; omega) ?_; intro v' w6 hown6 hgrow6 _))
            go_roundw
            case rel => exact ⟨k + 1, _, v', rfl, by go_num, by omega, by rw [hms.out, flat_snoc]; exact hown6, by rw [hms.out, hl6.out], ((hE3.trans ((Ext.refl _).drew.trans herc)).alloc _).grown hgrow6 fun j e => (ho6.lt j e).1⟩
            case measure => simp [intOf]; omega
          · have h1 : (y.row == x.row) = false := by simpa using h1
            clear hd
            refine wp_region_facts [] [([], false, false), ([0], false, false), ([0, 1], false, false), ([0, 1, 2], false, false), ([0, 1, 2], false, false), ([0, 1, 2, 3, 4], false, false), ([0, 1, 2, 3, 4, 5], false, false), ([0, 1, 2], false, false), ([0, 1, 2, 3, 4, 5, 6, 7], false, false), ([0, 1, 2, 3, 4, 5, 6, 7, 8], false, false)] (Ext) Ext (fun _ => True) (by kernel_rfl) (by kernel_rfl) Ext.refl (fun _ _ _ => Ext.trans) (fun _ _ h => h) (fun _ _ h => h.size) (fun _ _ h _ => h) trivial ?_
            dsimp only [List.length_cons, List.length_nil, List.drop_succ_cons, List.drop_zero, List.drop_nil]
            refine fac_quiet 0 rfl rfl rfl (fun _ _ h _ => h) rfl rfl ?_
            apply Exists.intro
            refine ⟨fun sv w' hw' hfa => ?_, ?_⟩
            · refine ⟨rfl, ?_⟩
              simp only [putsL]
              change quietTo _ _ _ _ (Sem.run _ (execOp (Act.eval _) _) _)
              try simp only [Act.put, List.setIfInBounds_toArray, List.set_cons_succ, List.set_cons_zero]
              simp [go_sem, quietTo, Ext.refl]
              all_goals first
                | rfl
            refine fac_quiet 1 rfl rfl rfl (fun _ _ h _ => h) rfl rfl ?_
            apply Exists.intro
            refine ⟨fun sv w' hw' hfa => ?_, ?_⟩
            · obtain ⟨f0, -⟩ := hfa
              replace f0 : sv 0 = _ := f0
              try dsimp only at f0
              have hk9 := (Ext.refl w1).drew.trans hw'; obtain ⟨hc, hff, hz9⟩ := hk9.walk; obtain ⟨y1, -⟩ := (hY1.ext hk9).walk; have u0 := (hc _ _ hbt).trans d0; have u1 := (hc _ _ hbt).trans d1; have u2 := (hc _ _ hbt).trans d2
              refine ⟨rfl, ?_⟩
              simp only [putsL]
              change quietTo _ _ _ _ (Sem.run _ (execOp (Act.eval (Act.put _ (some 19) (sv 0))) _) _)
              try simp only [Act.put, List.setIfInBounds_toArray, List.set_cons_succ, List.set_cons_zero]
              simp [go_sem, quietTo, Ext.refl, ↓IntWalk.iteOmega, f0, hj0]
              all_goals try simp (disch := omega) only [IntWalk.i64_in]
              all_goals first
                | rfl
            refine fac_quiet 2 rfl rfl rfl (fun _ _ h _ => h) rfl rfl ?_
            apply Exists.intro
            refine ⟨fun sv w' hw' hfa => ?_, ?_⟩
            · obtain ⟨_, f1, -⟩ := hfa
              replace f1 : sv 1 = _ := f1
              try dsimp only at f1
              refine ⟨rfl, ?_⟩
              simp only [putsL]
              change quietTo _ _ _ _ (Sem.run _ (execOp (Act.eval (Act.put (Act.put _ (some 20) (sv 1)) (some 19) (sv 0))) _) _)
              try simp only [Act.put, List.setIfInBounds_toArray, List.set_cons_succ, List.set_cons_zero]
              simp [go_sem, quietTo, Ext.refl, f1]
              all_goals first
                | rfl
            refine fac_quiet 3 rfl rfl rfl (fun _ _ h _ => h) rfl rfl ?_
            apply Exists.intro
            refine ⟨fun sv w' hw' hfa => ?_, ?_⟩
            · obtain ⟨_, _, f2, -⟩ := hfa
              replace f2 : sv 2 = _ := f2
              try dsimp only at f2
              refine ⟨by simp [Region.wanted, yielded, putsL, Act.put, f2], ?_⟩
              simp only [putsL]
              change quietTo _ _ _ _ (Sem.run _ (execOp (Act.eval (Act.put (Act.put (Act.put _ (some 21) (sv 2)) (some 20) (sv 1)) (some 19) (sv 0))) _) _)
              try simp only [Act.put, List.setIfInBounds_toArray, List.set_cons_succ, List.set_cons_zero]
              simp [go_sem, quietTo, Ext.refl, f2]
              all_goals first
                | rfl
            refine fac_quiet 4 rfl rfl rfl (fun _ _ h _ => h) rfl rfl ?_
            apply Exists.intro
            refine ⟨fun sv w' hw' hfa => ?_, ?_⟩
            · obtain ⟨_, _, f2, -⟩ := hfa
              replace f2 : sv 2 = _ := f2
              try dsimp only at f2
              refine ⟨by simp [Region.wanted, yielded, putsL, Act.put, f2], ?_⟩
              simp only [putsL]
              change quietTo _ _ _ _ (Sem.run _ (execOp (Act.eval (Act.put (Act.put (Act.put _ (some 21) (sv 2)) (some 20) (sv 1)) (some 19) (sv 0))) _) _)
              try simp only [Act.put, List.setIfInBounds_toArray, List.set_cons_succ, List.set_cons_zero]
              simp [go_sem, quietTo, Ext.refl, f2]
              all_goals first
                | rfl
            refine fac_quiet 5 rfl rfl rfl (fun _ _ h _ => h) rfl rfl ?_
            apply Exists.intro
            refine ⟨fun sv w' hw' hfa => ?_, ?_⟩
            · obtain ⟨_, _, f2, f3, f4, -⟩ := hfa
              replace f2 : sv 2 = _ := f2
              try dsimp only at f2
              replace f3 : sv 3 = _ := f3
              try dsimp only at f3
              replace f4 : sv 4 = _ := f4
              try dsimp only at f4
              have hk9 := (Ext.refl w1).drew.trans hw'; obtain ⟨hc, hff, hz9⟩ := hk9.walk; obtain ⟨y1, -⟩ := (hY1.ext hk9).walk; have u0 := (hc _ _ hbt).trans d0; have u1 := (hc _ _ hbt).trans d1; have u2 := (hc _ _ hbt).trans d2
              refine ⟨by simp [Region.wanted, yielded, putsL, Act.put, f2, f3, f4], ?_⟩
              simp only [putsL]
              change quietTo _ _ _ _ (Sem.run _ (execOp (Act.eval (Act.put (Act.put (Act.put (Act.put (Act.put _ (some 23) (sv 4)) (some 22) (sv 3)) (some 21) (sv 2)) (some 20) (sv 1)) (some 19) (sv 0))) _) _)
              try simp only [Act.put, List.setIfInBounds_toArray, List.set_cons_succ, List.set_cons_zero]
              simp [go_sem, quietTo, Ext.refl, ↓IntWalk.iteOmega, f2, f3, f4, hjI]
              all_goals try simp (disch := omega) only [IntWalk.i64_in]
              all_goals first
                | rfl
            refine fac_quiet 6 rfl rfl rfl (fun _ _ h _ => h) rfl rfl ?_
            apply Exists.intro
            refine ⟨fun sv w' hw' hfa => ?_, ?_⟩
            · obtain ⟨_, _, f2, _, _, f5, -⟩ := hfa
              replace f2 : sv 2 = _ := f2
              try dsimp only at f2
              replace f5 : sv 5 = _ := f5
              try dsimp only at f5
              have hk9 := (Ext.refl w1).drew.trans hw'; obtain ⟨hc, hff, hz9⟩ := hk9.walk; obtain ⟨y1, -⟩ := (hY1.ext hk9).walk; have u0 := (hc _ _ hbt).trans d0; have u1 := (hc _ _ hbt).trans d1; have u2 := (hc _ _ hbt).trans d2
              refine ⟨by simp [Region.wanted, yielded, putsL, Act.put, f2, f5], ?_⟩
              simp only [putsL]
              change quietTo _ _ _ _ (Sem.run _ (execOp (Act.eval (Act.put (Act.put (Act.put (Act.put (Act.put (Act.put _ (some 24) (sv 5)) (some 23) (sv 4)) (some 22) (sv 3)) (some 21) (sv 2)) (some 20) (sv 1)) (some 19) (sv 0))) _) _)
              try simp only [Act.put, List.setIfInBounds_toArray, List.set_cons_succ, List.set_cons_zero]
              simp [go_sem, quietTo, Ext.refl, ↓IntWalk.iteOmega, f2, f5, u0, u1, u2]
              all_goals try simp (disch := omega) only [IntWalk.i64_in]
              all_goals first
                | rfl
            refine fac_quiet 7 rfl rfl rfl (fun _ _ h _ => h) rfl rfl ?_
            apply Exists.intro
            refine ⟨fun sv w' hw' hfa => ?_, ?_⟩
            · obtain ⟨_, _, f2, -⟩ := hfa
              replace f2 : sv 2 = _ := f2
              try dsimp only at f2
              have hk9 := (Ext.refl w1).drew.trans hw'; obtain ⟨hc, hff, hz9⟩ := hk9.walk; obtain ⟨y1, -⟩ := (hY1.ext hk9).walk; have u0 := (hc _ _ hbt).trans d0; have u1 := (hc _ _ hbt).trans d1; have u2 := (hc _ _ hbt).trans d2
              refine ⟨by simp [Region.wanted, yielded, putsL, Act.put, f2], ?_⟩
              simp only [putsL]
              change quietTo _ _ _ _ (Sem.run _ (execOp (Act.eval (Act.put (Act.put (Act.put _ (some 21) (sv 2)) (some 20) (sv 1)) (some 19) (sv 0))) _) _)
              try simp only [Act.put, List.setIfInBounds_toArray, List.set_cons_succ, List.set_cons_zero]
              simp [go_sem, quietTo, Ext.refl, ↓IntWalk.iteOmega, f2, y1]
              all_goals try simp (disch := omega) only [IntWalk.i64_in]
              all_goals first
                | rfl
            refine fac_quiet 8 rfl rfl rfl (fun _ _ h _ => h) rfl rfl ?_
            apply Exists.intro
            refine ⟨fun sv w' hw' hfa => ?_, ?_⟩
            · obtain ⟨_, _, f2, _, _, _, f6, f7, -⟩ := hfa
              replace f2 : sv 2 = _ := f2
              try dsimp only at f2
              replace f6 : sv 6 = _ := f6
              try dsimp only at f6
              replace f7 : sv 7 = _ := f7
              try dsimp only at f7
              have hk9 := (Ext.refl w1).drew.trans hw'; obtain ⟨hc, hff, hz9⟩ := hk9.walk; obtain ⟨y1, -⟩ := (hY1.ext hk9).walk; have u0 := (hc _ _ hbt).trans d0; have u1 := (hc _ _ hbt).trans d1; have u2 := (hc _ _ hbt).trans d2
              refine ⟨by simp [Region.wanted, yielded, putsL, Act.put, f2, f6, f7], ?_⟩
              simp only [putsL]
              change quietTo _ _ _ _ (Sem.run _ (execOp (Act.eval (Act.put (Act.put (Act.put (Act.put (Act.put (Act.put (Act.put (Act.put _ (some 26) (sv 7)) (some 25) (sv 6)) (some 24) (sv 5)) (some 23) (sv 4)) (some 22) (sv 3)) (some 21) (sv 2)) (some 20) (sv 1)) (some 19) (sv 0))) _) _)
              try simp only [Act.put, List.setIfInBounds_toArray, List.set_cons_succ, List.set_cons_zero]
              simp [go_sem, quietTo, Ext.refl, ↓IntWalk.iteOmega, f2, f6, f7, h1]
              all_goals try simp (disch := omega) only [IntWalk.i64_in]
              all_goals first
                | rfl
            refine fac_quiet 9 rfl rfl rfl (fun _ _ h _ => h) rfl rfl ?_
            apply Exists.intro
            refine ⟨fun sv w' hw' hfa => ?_, ?_⟩
            · obtain ⟨_, _, f2, _, _, _, _, _, f8, -⟩ := hfa
              replace f2 : sv 2 = _ := f2
              try dsimp only at f2
              replace f8 : sv 8 = _ := f8
              try dsimp only at f8
              refine ⟨rfl, ?_⟩
              simp only [putsL]
              change quietTo _ _ _ _ (Sem.run _ (execOp (Act.eval (Act.put (Act.put (Act.put (Act.put (Act.put (Act.put (Act.put (Act.put (Act.put _ (some 27) (sv 8)) (some 26) (sv 7)) (some 25) (sv 6)) (some 24) (sv 5)) (some 23) (sv 4)) (some 22) (sv 3)) (some 21) (sv 2)) (some 20) (sv 1)) (some 19) (sv 0))) _) _)
              try simp only [Act.put, List.setIfInBounds_toArray, List.set_cons_succ, List.set_cons_zero]
              simp [go_sem, quietTo, Ext.refl, ↓IntWalk.iteOmega, f2, f8]
              all_goals try simp (disch := omega) only [IntWalk.i64_in]
              all_goals first
                | rfl
            refine fac_nil fun xd wrd herd hfrd hcrd holdd hapd => ?_
            obtain ⟨f0, f1, f2, f3, f4, f5, f6, f7, f8, f9, -⟩ := hfrd
            replace f0 : xd 0 = _ := f0
            try dsimp only at f0
            replace f1 : xd 1 = _ := f1
            try dsimp only at f1
            replace f2 : xd 2 = _ := f2
            try dsimp only at f2
            replace f3 : xd 3 = _ := f3
            try dsimp only at f3
            replace f4 : xd 4 = _ := f4
            try dsimp only at f4
            replace f5 : xd 5 = _ := f5
            try dsimp only at f5
            replace f6 : xd 6 = _ := f6
            try dsimp only at f6
            replace f7 : xd 7 = _ := f7
            try dsimp only at f7
            replace f8 : xd 8 = _ := f8
            try dsimp only at f8
            replace f9 : xd 9 = _ := f9
            try dsimp only at f9
            change wpList _ _ _ _ (Act.put (Act.put (Act.put (Act.put (Act.put (Act.put (Act.put (Act.put (Act.put (Act.put _ (some 19) (xd 0)) (some 20) (xd 1)) (some 21) (xd 2)) (some 22) (xd 3)) (some 23) (xd 4)) (some 24) (xd 5)) (some 25) (xd 6)) (some 26) (xd 7)) (some 27) (xd 8)) (some 28) (xd 9)) _
            simp only [putsL, Nat.reduceAdd, List.drop_succ_cons, List.drop_zero, List.drop_nil, Act.put, List.setIfInBounds_toArray, List.set_cons_succ, List.set_cons_zero]
            try simp only [f0, f1, f2, f3, f4, f5, f6, f7, f8, f9]
            clear f0 f1 f2 f3 f4 f5 f6 f7 f8 f9
            clear holdd hapd
            obtain ⟨q1, -⟩ := (hY1.ext ((Ext.refl _).drew.trans herd)).walk
            have ql := (hY1.ext ((Ext.refl _).drew.trans herd)).lt
            have ho6 := (own_ext ((Ext.refl _).drew.trans herd) hown3.out).alloc (.cells #[.string x.name] 9)
            go_wp2_with (at_builtin; go_loud (refine wp_app1 _ (.tmp 29) (.tmp 32) 48 9 1 16 _ rfl rfl Tryz.underlying48 strInfo rfl (by decide) (by decide) w.heap.size _ _ _ rfl ho6 _ (strC x.name) rfl rfl (Blk.new' (by simp)) (by simp [strC, Value.oneCell']) (by omega) (by have := herd.size; simp at this ⊢; omega) ?_; intro v' w6 hown6 hgrow6 _))
            go_roundw
            case rel => exact ⟨k + 1, _, v', rfl, by go_num, by omega, by rw [hms.out, flat_snoc]; exact hown6, by rw [hms.out, hl6.out], ((hE3.trans ((Ext.refl _).drew.trans herd)).alloc _).grown hgrow6 fun j e => (ho6.lt j e).1⟩
            case measure => simp [intOf]; omega
    · obtain rfl : k = A.length := by omega
      have hml := movT_len A B A.length
      have hmr : movT A B A.length = movR A B := by unfold movT movR; rw [List.take_length]
      rw [hmr] at hown hml
      obtain ⟨q, c, hqe, hS⟩ := slc_of_own (enc := strC) (fun _ => rfl) hown (by decide) (by omega)
      subst hqe
      have hon := onceN_any q _ c _ _ hS.1 (by omega) (movR_nodup dA.out)
      replace hon := Lib.hid hon
      clear hown hS
      go_wp2_with (go_at_call 81; (with_reducible refine Calls.mono hon.out ?_); rintro e w5 ⟨p', c', rfl, hS5, hx5⟩)
      go_ret
      exact ⟨p', c', rfl, hS5, hE.trans hx5⟩
end
end Go.Proofs.YtakfanmoepiagaaGreatDoor
