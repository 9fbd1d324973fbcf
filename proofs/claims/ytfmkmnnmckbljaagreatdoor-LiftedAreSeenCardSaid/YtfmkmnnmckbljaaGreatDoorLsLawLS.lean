/- The law of rows that are lifted: it answers true. Conditions: the argument is a list of ints that lies in memory; the table of powers. -/
import Derived.Test.YtfmkmnnmckbljaaGreatDoorLsSuI
import Derived.Test.YtfmkmnnmckbljaaGreatDoorLsJ47
import Derived.Deep.DeepCutAuto
set_option linter.unusedSimpArgs false
set_option linter.unusedVariables false
namespace Go.Proofs.YtfmkmnnmckbljaaGreatDoor
open Go Go.RowKit

set_option maxRecDepth 100000 in
set_option maxHeartbeats 25600000 in
theorem lawLS_any (B : Nat) (w : World) (p : Option Addr) (n c : Nat) (h : Lst w w.heap.size p n) (ht : Tab B w) :
    Calls Tryz.prog 4 #[.slice p n c] w fun e w' => e = .returned (.bool true) ∧ Ext w w' := by
  have hS0 : Str (w.alloc (.cells #[.slice p n c, .int .i64 0] 25)) w.heap.size 0 := ⟨p, n, c, 0, Nat.le_refl _, Blk.new' rfl, h.low fun j hj => Below.heap_alloc w _ j hj⟩
  have hE0 : Ext w (w.alloc (.cells #[.slice p n c, .int .i64 0] 25)) := (Ext.refl w).alloc _
  clear h
  go_enter Tryz.func4, Tryz.ntmps4
  go_upto_region 3 with (first
    | (go_at_call 21; (with_reducible refine Calls.mono (people_any w.heap.size 0 8 _ (by omega) (by omega) (by exact hS0)) ?_); rintro e w1 ⟨pp, n, pc, P, rfl, hn9, hP, hpf, hPs, hS1, hE1⟩; obtain rfl : n = P.length := (slcC hP).1)
    | (go_at_call 22; (with_reducible refine Calls.mono (stageOf_any w.heap.size (0 + 40) _ (by omega) (by exact hS1)) ?_); rintro e w2 ⟨wp, wc, hp, hc, wide, high, rfl, hw4, hh4, hws, hhs, hW, hH, hwf, hhf, hS2, hE2⟩))
  have hpf2 : ∀ a, pp = some a → a.block ≠ w.heap.size := fun a ha e => by have := hpf a ha; simp at this; omega
  have hsz1 : w.heap.size + 1 ≤ w1.heap.size := by have := hE1.2.2.2.1; simpa using this
  have hwf2 : ∀ a, wp = some a → a.block ≠ w.heap.size := fun a ha e => by have := hwf a ha; omega
  have hhf2 : ∀ a, hp = some a → a.block ≠ w.heap.size := fun a ha e => by have := hhf a ha; omega
  have hP2 := hP.extS hE2 hpf2
  have hE2' := hE1.trans hE2
  have hEa : Ext w2 (w2.alloc (.cells #[.slice wp wide.length wc, .slice hp high.length hc] 28)) := (Ext.refl _).alloc _
  have hB3 : Blk (w2.alloc (.cells #[.slice wp wide.length wc, .slice hp high.length hc] 28)) w2.heap.size 28 #[.slice wp wide.length wc, .slice hp high.length hc] := Blk.new' rfl
  have hsl := standList_any w.heap.size (0 + 40 + 40) _ pp pc P wp wc wide hp hc high (by omega) (hS2.ext hEa) (hP2.ext hEa) (hW.ext hEa) (hH.ext hEa) hpf2 hwf2 hPs hws hhs hn9 hw4
  have hP3 := hP2.ext hEa
  have hW3 := hW.ext hEa
  have hH3 := hH.ext hEa
  have hE3 := hE2'.ext hEa
  have hsz2 := hE2'.2.2.2.1
  have hsz2' : w.heap.size < w2.heap.size := by have := hE2.2.2.2.1; omega
  replace hsl := Lib.hid hsl
  clear hE1 hS1 hP hE2 hS2 hE2' hP2 hW hH hpf hwf hhf hS0
  replace hP3 := Lib.hid hP3
  replace hW3 := Lib.hid hW3
  replace hH3 := Lib.hid hH3
  replace hPs := Lib.hid hPs
  go_upto_region 4 with (go_at_call 23; (with_reducible refine Calls.mono hsl.out ?_); rintro e w4 ⟨lp, lc, S, rfl, hS9, hSl, hSs, hlf, hS4, hE4⟩)
  have hM : PsM w4 pp pc P wp wc wide hp hc high lp lc S := ⟨hP3.out.extS hE4 hpf2, hW3.out.extS hE4 hwf2, hH3.out.extS hE4 hhf2, hSl, hPs.out, hws, hhs, hSs, by omega, by omega⟩
  have hE5 : Ext w w4 := ExtS.back hE0 (Nat.le_refl _) (hE3.trans hE4)
  have hB5 := hB3.extS (by omega) hE4
  generalize w2.heap.size = g5 at *
  have hfl := standsFault_any pp pc P wp wc wide hp hc high lp lc S w4 hM
  generalize hsf : standsF P wide high S = sf at *
  obtain ⟨b5, -⟩ := hB5.walk
  have bl5 := hB5.lt
  replace hfl := Lib.hid hfl
  replace hsf := Lib.hid hsf
  clear hsl hP3 hW3 hH3 hE3 hE4 hB3 hEa hSl hS4 hE0 hpf2 hwf2 hhf2 hsz1 hsz2 hlf
  by_cases hs0 : sf = 0
  rotate_left
  · clear hM
    go_wp2_with (first
      | (go_at_call 24; (with_reducible refine Calls.mono hfl.out ?_); rintro e w5 ⟨rfl, hb5⟩)
      | (go_at_call 25; refine (ready_any B _ (by exact ht.ext (hE5.trans hb5))).mono ?_; rintro e wz ⟨rfl, hzz⟩))
    go_ret
    exact ⟨rfl, (hE5.trans hb5).trans hzz⟩
  subst hs0
  have hok := (standsF_ok hsf.out).1
  have hwn := (standsF_ok hsf.out).2.1
  have h5k := (standsF_ok hsf.out).2.2.1
  have hnd := (standsF_ok hsf.out).2.2.2
  have hlen := hok.len
  have hw10 := hok.wo.1
  have hwh := hok.wh
  have hbnd := hidTo_len P wide high S S.length (Nat.le_refl _)
  have hbnd2 : S.length * S.length ≤ 200 * 200 := Nat.mul_le_mul hlen hlen
  rw [hidTo_all] at hbnd
  have hh1 := fun u (hu : Ext w4 u) => hides_good (hM.more hu) hsf.out
  have hh3 := fun u (hu : Ext w4 u) => lift_good (hM.more hu) hsf.out
  have hll : (liftL P wide high S wide.length).length = wide.length := liftL_len _
  have hub := liftL_bound hok wide.length
  have hl0 := lift_zero (P := P) (wide := wide) (high := high) (S := S) hwn
  have hup := fun k x y (hx : (liftL P wide high S wide.length)[k]? = some x) hy => lift_up (P := P) (wide := wide) (high := high) (S := S) (n := wide.length) (k := k) (x := x) (y := y) hx hy
  have hnone := lifted_none hok
  have hrow := fun z hz => hidden_row hok (z := z) hz
  generalize hLL : liftL P wide high S wide.length = LL at *
  generalize hHL : hiddenL P wide high S = HL at *
  have hws2 : IntKind.i64.wrap 0 = 0 := rfl
  have hss := fun (u : World) (b : Nat) (hb : Blk u b 3 (rowI LL)) => isSorted_any b wide.length LL u hb (by omega) hup
  rw [hll] at hss
  replace hwh := Lib.hid hwh
  replace hll := Lib.hid hll
  replace hh1 := Lib.hid hh1
  replace hh3 := Lib.hid hh3
  replace hss := Lib.hid hss
  replace hub := Lib.hid hub
  replace hup := Lib.hid hup
  replace hnone := Lib.hid hnone
  replace hrow := Lib.hid hrow
  replace hLL := Lib.hid hLL
  replace hHL := Lib.hid hHL
  replace hM := Lib.hid hM
  replace hok := Lib.hid hok
  replace h5k := Lib.hid h5k
  replace hnd := Lib.hid hnd
  have hwnI : (0 : Int) < wide.length := by omega
  have hwn0 : 0 < wide.length := by omega
  go_upto_region 10 with (first
    | (go_at_call 24; (with_reducible refine Calls.mono hfl.out ?_); rintro e w5 ⟨rfl, hb5⟩; clear b5 bl5; obtain ⟨b6, -⟩ := (hB5.ext hb5).walk; have bl6 := (hB5.ext hb5).lt)
    | (go_at_call 11; (with_reducible refine Calls.mono (hh1.out _ hb5) ?_); rintro e w6 ⟨q3, c3, rfl, hs6, hb6⟩; clear b6 bl6; have E6 := hb5.trans hb6; obtain ⟨b7, -⟩ := (hB5.ext E6).walk; have bl7 := (hB5.ext E6).lt)
    | (go_at_call 13; (with_reducible refine Calls.mono (hh3.out _ E6) ?_); rintro e w7 ⟨bl, rfl, hL7, hb7⟩; clear b7 bl7; have E7 := E6.trans hb7; obtain ⟨b8, -⟩ := (hB5.ext E7).walk; have bl8 := (hB5.ext E7).lt; have ul0 := rowI_cell hL7 hl0; have ul1 := hL7.lt)
    | (go_at_call 26; (with_reducible refine Calls.mono (hss.out _ _ hL7) ?_); rintro e w8 ⟨rfl, hb8⟩))
  have E8 := E7.trans hb8
  have hs8 := (hs6.ext hb7).ext hb8
  have hL8 := hL7.ext hb8
  have hB8 := hB5.ext E8
  have hM8 := hM.out.more E8
  have hE8 := hE5.trans E8
  clear b8 bl8 ul0 ul1 hs6 hL7 hb5 hb6 hb7 hb8 E6 E7 hB5 hh1 hh3 hss hfl hE5 hM E8
  replace hM8 := Lib.hid hM8
  go_wp2
  go_loopw [75] (fun v75 wr => ∃ k : Nat, v75 = .int .i64 k ∧ k ≤ HL.length ∧ Ext w8 wr) (fun v75 _ => HL.length - (intOf v75).toNat)
  case atStart => exact ⟨0, rfl, Nat.zero_le _, Ext.refl _⟩
  case round =>
    obtain ⟨k, rfl, hk, hE⟩ := hrel
    by_cases hlt : k < HL.length
    · obtain ⟨z, hz⟩ := getD_some (rfl : HL.length = HL.length) hlt
      have hkI : (k : Int) < HL.length := by omega
      rcases (slcC (hs8.ext hE)).2 with ⟨-, e⟩ | ⟨zb, zo, rfl, hzb, hzE⟩
      · rw [e] at hz; cases hz
      obtain ⟨c0, c1⟩ := hzE.hid hz
      have hE1 : Ext wr (wr.alloc (.cells #[.string z.1, .string z.2] 50)) := (Ext.refl _).alloc _
      have hfi := ls1Find (hM8.out.more (hE.trans hE1)) hnd.out z.1 z.2 wr.heap.size (Blk.new' rfl) (hrow.out z (List.mem_of_getElem? hz))
      replace hfi := Lib.hid hfi
      clear hz hzE
      go_upto_region 14 with (go_at_call 27; (with_reducible refine Calls.mono hfi.out ?_); rintro e w9 ⟨kk, y, rfl, hy, hyr, hb9⟩)
      have hE9 := (hE.trans hE1).trans hb9
      have hky := (List.getElem?_eq_some_iff.1 hy).1
      rcases (slcC (hM8.out.more hE9).sta).2 with ⟨-, e⟩ | ⟨sb, so, rfl, hsb, hsE⟩
      · rw [e] at hy; cases hy
      have cy := (hsE.sta hy).2.1
      have hkyI : (kk : Int) < S.length := by omega
      have hk0 : ¬ (kk : Int) < 0 := by omega
      have hy0 : (y.row == 0) = false := by simp; omega
      clear hsE hy hb9 hE1
      go_wp2
      go_roundw
      case rel => exact ⟨k + 1, by go_num, by omega, hE9⟩
      case measure => simp [intOf]; omega
    · obtain rfl : k = HL.length := by omega
      go_upto_region 17 with fail
      have hBr := hB8.ext hE
      have hMr := hM8.out.more hE
      have hEr := hE8.trans hE
      have hLr := hL8.ext hE
      have hnP := hMr.nP
      clear hB8 hM8 hE8 hL8 hE hs8
      generalize wr = W1 at *
      have hcl := fun u (hu : Ext W1 u) => clone_int (enc := intC) (fun x => x) (fun _ => rfl) hp high.length hc high u (hMr.hig.ext hu) (by omega)
      replace hcl := Lib.hid hcl
      replace hMr := Lib.hid hMr
      refine wp_region_facts [] [([], false, false), ([0], false, false), ([], false, false), ([2], false, false), ([2, 3], false, false), ([0, 1, 2, 3, 4], false, false), ([], false, true)] (Ext) Ext (fun _ => True) (by kernel_rfl) (by kernel_rfl) Ext.refl (fun _ _ _ => Ext.trans) (fun _ _ h => h) (fun _ _ h => h.size) (fun _ _ h _ => h) trivial ?_
      dsimp only [List.length_cons, List.length_nil, List.drop_succ_cons, List.drop_zero, List.drop_nil]
      refine fac_quiet 0 rfl rfl rfl (fun _ _ h _ => h) rfl rfl ?_
      apply Exists.intro
      refine ⟨fun sv w' hw' hfa => ?_, ?_⟩
      · refine ⟨rfl, ?_⟩
        simp only [putsL]
        change quietTo _ _ _ _ (Sem.run _ (execOp (Act.eval _) _) _)
        try simp only [Act.put, List.setIfInBounds_toArray, List.set_cons_succ, List.set_cons_zero]
        simp [go_sem, quietTo, Ext.refl]
        all_goals first
          | rfl
      refine fac_quiet 1 rfl rfl rfl (fun _ _ h _ => h) rfl rfl ?_
      apply Exists.intro
      refine ⟨fun sv w' hw' hfa => ?_, ?_⟩
      · obtain ⟨f0, -⟩ := hfa
        replace f0 : sv 0 = _ := f0
        try dsimp only at f0
        have hk9 := (Ext.refl W1).drew.trans hw'; obtain ⟨y1, -⟩ := (hBr.ext hk9).walk
        refine ⟨rfl, ?_⟩
        simp only [putsL]
        change quietTo _ _ _ _ (Sem.run _ (execOp (Act.eval (Act.put _ (some 93) (sv 0))) _) _)
        try simp only [Act.put, List.setIfInBounds_toArray, List.set_cons_succ, List.set_cons_zero]
        simp [go_sem, quietTo, Ext.refl, ↓IntWalk.iteOmega, f0, y1]
        all_goals try simp (disch := omega) only [IntWalk.i64_in]
        all_goals first
          | rfl
      refine fac_quiet 2 rfl rfl rfl (fun _ _ h _ => h) rfl rfl ?_
      apply Exists.intro
      refine ⟨fun sv w' hw' hfa => ?_, ?_⟩
      · refine ⟨rfl, ?_⟩
        simp only [putsL]
        change quietTo _ _ _ _ (Sem.run _ (execOp (Act.eval _) _) _)
        try simp only [Act.put, List.setIfInBounds_toArray, List.set_cons_succ, List.set_cons_zero]
        simp [go_sem, quietTo, Ext.refl]
        all_goals first
          | rfl
      refine fac_quiet 3 rfl rfl rfl (fun _ _ h _ => h) rfl rfl ?_
      apply Exists.intro
      refine ⟨fun sv w' hw' hfa => ?_, ?_⟩
      · obtain ⟨f2, -⟩ := hfa
        replace f2 : sv 2 = _ := f2
        try dsimp only at f2
        have hk9 := (Ext.refl W1).drew.trans hw'; obtain ⟨y1, -⟩ := (hBr.ext hk9).walk
        refine ⟨rfl, ?_⟩
        simp only [putsL]
        change quietTo _ _ _ _ (Sem.run _ (execOp (Act.eval (Act.put _ (some 95) (sv 2))) _) _)
        try simp only [Act.put, List.setIfInBounds_toArray, List.set_cons_succ, List.set_cons_zero]
        simp [go_sem, quietTo, Ext.refl, ↓IntWalk.iteOmega, f2, y1]
        all_goals try simp (disch := omega) only [IntWalk.i64_in]
        all_goals first
          | rfl
      refine fac_any 4 rfl rfl rfl (fun _ _ h _ => h) ?_
      refine ⟨(fun y w => ∃ (p9 : Option Addr) (c9 : Nat), y 4 = .slice p9 high.length c9 ∧ w.ownsRow W1.heap.size 3 1 (.slice p9 high.length c9) high.length (high.flatMap intC)), fun sv w' hw' hfa => ?_, ?_, ?_⟩
      · obtain ⟨f2, f3, -⟩ := hfa
        replace f2 : sv 2 = _ := f2
        try dsimp only at f2
        replace f3 : sv 3 = _ := f3
        try dsimp only at f3
        have hk9 := (Ext.refl W1).drew.trans hw'; obtain ⟨y1, -⟩ := (hBr.ext hk9).walk
        refine ⟨rfl, ?_⟩
        simp only [putsL]
        change outc _ _ (Sem.run _ (execOp (Act.eval (Act.put (Act.put _ (some 96) (sv 3)) (some 95) (sv 2))) _) _)
        try simp only [Act.put, List.setIfInBounds_toArray, List.set_cons_succ, List.set_cons_zero]
        simp [go_sem, outc, f3]
        refine (hcl.out _ hk9).mono ?_
        rintro e w9 ⟨p9, c9, rfl, ho9, hb9⟩
        exact ⟨_, rfl, hb9, p9, c9, by simp [upd], own_lowT ho9 hk9.size⟩
      · exact fun x w w' ⟨p9, c9, h1, h2⟩ he => ⟨p9, c9, h1, own_ext he h2⟩
      refine fac_any 5 rfl rfl rfl (fun _ _ h _ => h) ?_
      refine ⟨(fun y w => ∃ (p9 : Option Addr) (c9 : Nat), y 5 = .agg #[.slice wp wide.length wc, .slice p9 high.length c9] ∧ w.ownsRow W1.heap.size 3 1 (.slice p9 high.length c9) high.length (high.flatMap intC)), fun sv w' hw' hfa => ?_, ?_, ?_⟩
      · obtain ⟨f0, f1, f2, f3, f4, -⟩ := hfa
        replace f0 : sv 0 = _ := f0
        try dsimp only at f0
        replace f1 : sv 1 = _ := f1
        try dsimp only at f1
        replace f2 : sv 2 = _ := f2
        try dsimp only at f2
        replace f3 : sv 3 = _ := f3
        try dsimp only at f3
        obtain ⟨p4, c4, f4, ho4⟩ := f4
        replace f4 : sv 4 = _ := f4
        have hk9 := (Ext.refl W1).drew.trans hw'; obtain ⟨y1, -⟩ := (hBr.ext hk9).walk
        refine ⟨rfl, ?_⟩
        simp only [putsL]
        change outc _ _ (Sem.run _ (execOp (Act.eval (Act.put (Act.put (Act.put (Act.put (Act.put _ (some 97) (sv 4)) (some 96) (sv 3)) (some 95) (sv 2)) (some 94) (sv 1)) (some 93) (sv 0))) _) _)
        try simp only [Act.put, List.setIfInBounds_toArray, List.set_cons_succ, List.set_cons_zero]
        simp [go_sem, outc, f1, f4]
        exact ⟨Ext.refl _, p4, c4, by simp [upd], ho4⟩
      · exact fun x w w' ⟨p9, c9, h1, h2⟩ he => ⟨p9, c9, h1, own_ext he h2⟩
      refine fac_box 6 rfl rfl rfl (fun _ _ h _ => h) (fun _ _ h => h.size) (fun _ _ _ _ _ he _ hb => hb.ext he) ?_
      apply Exists.intro
      apply Exists.intro
      refine ⟨fun sv w' hw' hfa => ?_, ?_⟩
      · refine ⟨rfl, ?_⟩
        simp only [putsL]
        change boxTo _ _ _ (Sem.run _ (execOp (Act.eval _) _) _)
        try simp only [Act.put, List.setIfInBounds_toArray, List.set_cons_succ, List.set_cons_zero]
        simp [go_sem, boxTo, Ext.refl]
        all_goals try simp (disch := omega) only [IntWalk.i64_in]
        all_goals first
          | rfl
          | exact ⟨rfl, rfl⟩
          | exact ⟨⟨rfl, rfl⟩, rfl⟩
      refine fac_nil fun xq wrq herq hfrq hcrq holdq hapq => ?_
      obtain ⟨f0, f1, f2, f3, f4, f5, f6, -⟩ := hfrq
      replace f0 : xq 0 = _ := f0
      try dsimp only at f0
      replace f1 : xq 1 = _ := f1
      try dsimp only at f1
      replace f2 : xq 2 = _ := f2
      try dsimp only at f2
      replace f3 : xq 3 = _ := f3
      try dsimp only at f3
      obtain ⟨p4, c4, f4, ho4⟩ := f4
      replace f4 : xq 4 = _ := f4
      obtain ⟨p5, c5, f5, ho5⟩ := f5
      replace f5 : xq 5 = _ := f5
      obtain ⟨g6, f6, l6, b6⟩ := f6
      replace f6 : xq 6 = _ := f6
      obtain ⟨p6, q6⟩ := b6.walk
      change wpList _ _ _ _ (Act.put (Act.put (Act.put (Act.put (Act.put (Act.put (Act.put _ (some 93) (xq 0)) (some 94) (xq 1)) (some 95) (xq 2)) (some 96) (xq 3)) (some 97) (xq 4)) (some 98) (xq 5)) (some 14) (xq 6)) _
      simp only [putsL, Nat.reduceAdd, List.drop_succ_cons, List.drop_zero, List.drop_nil, Act.put, List.setIfInBounds_toArray, List.set_cons_succ, List.set_cons_zero]
      try simp only [f0, f1, f2, f3, f4, f5, f6]
      clear f0 f1 f2 f3
      clear holdq hapq
      obtain ⟨bp, cp, hbp, hbp1, hbp2⟩ := ho5.form (by have := hwh.out; omega)
      cases hbp
      have hkq := (Ext.refl W1).drew.trans herq
      have hl6 : W1.heap.size ≤ g6 := l6
      have hne6 : bp ≠ g6 := fun e => own_noT ho5 b6 (by decide) (by rw [e]; rfl)
      have hG0 := ((b6.set_ 0 (.slice wp wide.length wc)).set_ 1 (.slice (some ⟨bp, 0, none⟩) high.length c5)).cast (cs' := #[.slice wp wide.length wc, .slice (some ⟨bp, 0, none⟩) high.length c5]) (by simp)
      have ho6 := own_same (w' := (wrq.setCell ⟨g6, 0, none⟩ (.slice wp wide.length wc)).setCell ⟨g6, 1, none⟩ (.slice (some ⟨bp, 0, none⟩) high.length c5)) ho5 (fun g hg => by
        have e : bp = g := by simpa [Value.ownBlock] using hg
        rw [Below.heap_setCell _ _ _ g (by simp only; omega), Below.heap_setCell _ _ _ g (by simp only; omega)])
      have hEz := (hkq.setCell (p := ⟨g6, 0, none⟩) hl6 (.slice wp wide.length wc)).setCell (p := ⟨g6, 1, none⟩) hl6 (.slice (some ⟨bp, 0, none⟩) high.length c5)
      obtain ⟨z1, z2⟩ := b6.walk
      have zl := b6.lt
      have hhl := hiL_len (high := high) (u := LL) (by rw [hll.out, hwh.out])
      have hLb := hLr.lt
      clear hcl ho4 ho5 hbp2 f4 f5 herq l6 hBr
      replace hG0 := Lib.hid hG0
      replace ho6 := Lib.hid ho6
      replace hEz := Lib.hid hEz
      replace hhl := Lib.hid hhl
      go_wp2
      clear z1 z2 zl b6 hkq
      go_loopw [101] (fun v101 wz => ∃ k : Nat, v101 = .int .i64 k ∧ k ≤ wide.length ∧ wz.ownsRow W1.heap.size 3 1 (.slice (some ⟨bp, 0, none⟩) high.length c5) high.length (((hiL high LL).take k ++ high.drop k).flatMap intC) ∧ Blk wz g6 28 #[.slice wp wide.length wc, .slice (some ⟨bp, 0, none⟩) high.length c5] ∧ Ext W1 wz) (fun v101 _ => wide.length - (intOf v101).toNat)
      case atStart => exact ⟨0, rfl, Nat.zero_le _, by simpa using ho6.out, hG0.out, hEz.out⟩
      case round =>
        clear ho6 hG0 hEz
        obtain ⟨k, rfl, hk, ho, hG, hE⟩ := hrel
        by_cases hlt : k < wide.length
        · have hkh : k < high.length := by rw [hwh.out]; exact hlt
          obtain ⟨x, hx⟩ := getD_some (rfl : high.length = high.length) hkh
          obtain ⟨y, hy⟩ := getD_some hll.out hlt
          have hmid : ((hiL high LL).take k ++ high.drop k)[k]? = some x := by
            have h1 : ((hiL high LL).take k).length = k := by rw [List.length_take, hhl.out]; omega
            rw [List.getElem?_append_right (by omega), h1, Nat.sub_self, List.getElem?_drop]
            simpa using hx
          have c1 : wr.cell? ⟨bp, k, none⟩ = some (.int .i64 x) := by
            have := own_cell intC_len ho hmid 0 (v := .int .i64 x) rfl hkh
            simpa using this
          have c2 := rowI_cell (hLr.ext hE) hy
          have hxb := hok.out.ho x (List.mem_of_getElem? hx)
          have hyb := hub.out y (List.mem_of_getElem? hy)
          have hbpl := (ho.lt bp rfl).2
          have hLl := Nat.lt_of_lt_of_le hLb hE.size
          have hwx : IntKind.i64.wrap (x + y) = x + y := IntWalk.i64_in _ (by omega)
          have hkI : (k : Int) < high.length := by omega
          have hkI2 : (k : Int) < wide.length := by omega
          have hst := set_take_drop (xs := high) (ys := hiL high LL) hhl.out (hiL_at hx hy)
          replace hmid := Lib.hid hmid
          replace hst := Lib.hid hst
          clear hx hy
          go_upto_region 21 with fail
          refine wp_region_facts [] [([], false, false), ([0], false, false), ([], false, false), ([0, 1, 2], false, false), ([0, 1, 2, 3], false, false), ([], false, false), ([], false, false), ([5, 6], false, false), ([5, 6, 7], false, false), ([0, 1, 2, 3, 4, 5, 6, 7, 8], false, false), ([0, 1, 2], false, false)] (Ext) Ext (fun _ => True) (by kernel_rfl) (by kernel_rfl) Ext.refl (fun _ _ _ => Ext.trans) (fun _ _ h => h) (fun _ _ h => h.size) (fun _ _ h _ => h) trivial ?_
          dsimp only [List.length_cons, List.length_nil, List.drop_succ_cons, List.drop_zero, List.drop_nil]
          refine fac_quiet 0 rfl rfl rfl (fun _ _ h _ => h) rfl rfl ?_
          apply Exists.intro
          refine ⟨fun sv w' hw' hfa => ?_, ?_⟩
          · refine ⟨rfl, ?_⟩
            simp only [putsL]
            change quietTo _ _ _ _ (Sem.run _ (execOp (Act.eval _) _) _)
            try simp only [Act.put, List.setIfInBounds_toArray, List.set_cons_succ, List.set_cons_zero]
            simp [go_sem, quietTo, Ext.refl]
            all_goals first
              | rfl
          refine fac_quiet 1 rfl rfl rfl (fun _ _ h _ => h) rfl rfl ?_
          apply Exists.intro
          refine ⟨fun sv w' hw' hfa => ?_, ?_⟩
          · obtain ⟨f0, -⟩ := hfa
            replace f0 : sv 0 = _ := f0
            try dsimp only at f0
            have hk9 := (Ext.refl wr).drew.trans hw'; obtain ⟨y14, -⟩ := (hG.ext hk9).walk; obtain ⟨hc9, hff, hz9⟩ := hk9.walk; have v1 := (hc9 _ _ hbpl).trans c1; have v2 := (hc9 _ _ hLl).trans c2
            refine ⟨rfl, ?_⟩
            simp only [putsL]
            change quietTo _ _ _ _ (Sem.run _ (execOp (Act.eval (Act.put _ (some 104) (sv 0))) _) _)
            try simp only [Act.put, List.setIfInBounds_toArray, List.set_cons_succ, List.set_cons_zero]
            simp [go_sem, quietTo, Ext.refl, ↓IntWalk.iteOmega, f0, y14]
            all_goals try simp (disch := omega) only [IntWalk.i64_in]
            all_goals first
              | rfl
          refine fac_quiet 2 rfl rfl rfl (fun _ _ h _ => h) rfl rfl ?_
          apply Exists.intro
          refine ⟨fun sv w' hw' hfa => ?_, ?_⟩
          · refine ⟨rfl, ?_⟩
            simp only [putsL]
            change quietTo _ _ _ _ (Sem.run _ (execOp (Act.eval _) _) _)
            try simp only [Act.put, List.setIfInBounds_toArray, List.set_cons_succ, List.set_cons_zero]
            simp [go_sem, quietTo, Ext.refl]
            all_goals first
              | rfl
          refine fac_quiet 3 rfl rfl rfl (fun _ _ h _ => h) rfl rfl ?_
          apply Exists.intro
          refine ⟨fun sv w' hw' hfa => ?_, ?_⟩
          · obtain ⟨_, f1, f2, -⟩ := hfa
            replace f1 : sv 1 = _ := f1
            try dsimp only at f1
            replace f2 : sv 2 = _ := f2
            try dsimp only at f2
            have hk9 := (Ext.refl wr).drew.trans hw'; obtain ⟨y14, -⟩ := (hG.ext hk9).walk; obtain ⟨hc9, hff, hz9⟩ := hk9.walk; have v1 := (hc9 _ _ hbpl).trans c1; have v2 := (hc9 _ _ hLl).trans c2
            refine ⟨rfl, ?_⟩
            simp only [putsL]
            change quietTo _ _ _ _ (Sem.run _ (execOp (Act.eval (Act.put (Act.put (Act.put _ (some 106) (sv 2)) (some 105) (sv 1)) (some 104) (sv 0))) _) _)
            try simp only [Act.put, List.setIfInBounds_toArray, List.set_cons_succ, List.set_cons_zero]
            simp [go_sem, quietTo, Ext.refl, ↓IntWalk.iteOmega, f1, f2, hkI]
            all_goals try simp (disch := omega) only [IntWalk.i64_in]
            all_goals first
              | rfl
          refine fac_quiet 4 rfl rfl rfl (fun _ _ h _ => h) rfl rfl ?_
          apply Exists.intro
          refine ⟨fun sv w' hw' hfa => ?_, ?_⟩
          · obtain ⟨_, _, _, f3, -⟩ := hfa
            replace f3 : sv 3 = _ := f3
            try dsimp only at f3
            have hk9 := (Ext.refl wr).drew.trans hw'; obtain ⟨y14, -⟩ := (hG.ext hk9).walk; obtain ⟨hc9, hff, hz9⟩ := hk9.walk; have v1 := (hc9 _ _ hbpl).trans c1; have v2 := (hc9 _ _ hLl).trans c2
            refine ⟨rfl, ?_⟩
            simp only [putsL]
            change quietTo _ _ _ _ (Sem.run _ (execOp (Act.eval (Act.put (Act.put (Act.put (Act.put _ (some 107) (sv 3)) (some 106) (sv 2)) (some 105) (sv 1)) (some 104) (sv 0))) _) _)
            try simp only [Act.put, List.setIfInBounds_toArray, List.set_cons_succ, List.set_cons_zero]
            simp [go_sem, quietTo, Ext.refl, ↓IntWalk.iteOmega, f3, v1]
            all_goals try simp (disch := omega) only [IntWalk.i64_in]
            all_goals first
              | rfl
          refine fac_quiet 5 rfl rfl rfl (fun _ _ h _ => h) rfl rfl ?_
          apply Exists.intro
          refine ⟨fun sv w' hw' hfa => ?_, ?_⟩
          · refine ⟨rfl, ?_⟩
            simp only [putsL]
            change quietTo _ _ _ _ (Sem.run _ (execOp (Act.eval _) _) _)
            try simp only [Act.put, List.setIfInBounds_toArray, List.set_cons_succ, List.set_cons_zero]
            simp [go_sem, quietTo, Ext.refl]
            all_goals first
              | rfl
          refine fac_quiet 6 rfl rfl rfl (fun _ _ h _ => h) rfl rfl ?_
          apply Exists.intro
          refine ⟨fun sv w' hw' hfa => ?_, ?_⟩
          · refine ⟨rfl, ?_⟩
            simp only [putsL]
            change quietTo _ _ _ _ (Sem.run _ (execOp (Act.eval _) _) _)
            try simp only [Act.put, List.setIfInBounds_toArray, List.set_cons_succ, List.set_cons_zero]
            simp [go_sem, quietTo, Ext.refl]
            all_goals first
              | rfl
          refine fac_quiet 7 rfl rfl rfl (fun _ _ h _ => h) rfl rfl ?_
          apply Exists.intro
          refine ⟨fun sv w' hw' hfa => ?_, ?_⟩
          · obtain ⟨f5, f6, -⟩ := hfa
            replace f5 : sv 5 = _ := f5
            try dsimp only at f5
            replace f6 : sv 6 = _ := f6
            try dsimp only at f6
            have hk9 := (Ext.refl wr).drew.trans hw'; obtain ⟨y14, -⟩ := (hG.ext hk9).walk; obtain ⟨hc9, hff, hz9⟩ := hk9.walk; have v1 := (hc9 _ _ hbpl).trans c1; have v2 := (hc9 _ _ hLl).trans c2
            refine ⟨rfl, ?_⟩
            simp only [putsL]
            change quietTo _ _ _ _ (Sem.run _ (execOp (Act.eval (Act.put (Act.put _ (some 110) (sv 6)) (some 109) (sv 5))) _) _)
            try simp only [Act.put, List.setIfInBounds_toArray, List.set_cons_succ, List.set_cons_zero]
            simp [go_sem, quietTo, Ext.refl, ↓IntWalk.iteOmega, f5, f6, hkI2]
            all_goals try simp (disch := omega) only [IntWalk.i64_in]
            all_goals first
              | rfl
          refine fac_quiet 8 rfl rfl rfl (fun _ _ h _ => h) rfl rfl ?_
          apply Exists.intro
          refine ⟨fun sv w' hw' hfa => ?_, ?_⟩
          · obtain ⟨_, _, f7, -⟩ := hfa
            replace f7 : sv 7 = _ := f7
            try dsimp only at f7
            have hk9 := (Ext.refl wr).drew.trans hw'; obtain ⟨y14, -⟩ := (hG.ext hk9).walk; obtain ⟨hc9, hff, hz9⟩ := hk9.walk; have v1 := (hc9 _ _ hbpl).trans c1; have v2 := (hc9 _ _ hLl).trans c2
            refine ⟨rfl, ?_⟩
            simp only [putsL]
            change quietTo _ _ _ _ (Sem.run _ (execOp (Act.eval (Act.put (Act.put (Act.put _ (some 111) (sv 7)) (some 110) (sv 6)) (some 109) (sv 5))) _) _)
            try simp only [Act.put, List.setIfInBounds_toArray, List.set_cons_succ, List.set_cons_zero]
            simp [go_sem, quietTo, Ext.refl, ↓IntWalk.iteOmega, f7, v2]
            all_goals try simp (disch := omega) only [IntWalk.i64_in]
            all_goals first
              | rfl
          refine fac_quiet 9 rfl rfl rfl (fun _ _ h _ => h) rfl rfl ?_
          apply Exists.intro
          refine ⟨fun sv w' hw' hfa => ?_, ?_⟩
          · obtain ⟨_, _, _, _, f4, _, _, _, f8, -⟩ := hfa
            replace f4 : sv 4 = _ := f4
            try dsimp only at f4
            replace f8 : sv 8 = _ := f8
            try dsimp only at f8
            have hk9 := (Ext.refl wr).drew.trans hw'; obtain ⟨y14, -⟩ := (hG.ext hk9).walk; obtain ⟨hc9, hff, hz9⟩ := hk9.walk; have v1 := (hc9 _ _ hbpl).trans c1; have v2 := (hc9 _ _ hLl).trans c2
            refine ⟨rfl, ?_⟩
            simp only [putsL]
            change quietTo _ _ _ _ (Sem.run _ (execOp (Act.eval (Act.put (Act.put (Act.put (Act.put (Act.put (Act.put (Act.put (Act.put (Act.put _ (some 112) (sv 8)) (some 111) (sv 7)) (some 110) (sv 6)) (some 109) (sv 5)) (some 108) (sv 4)) (some 107) (sv 3)) (some 106) (sv 2)) (some 105) (sv 1)) (some 104) (sv 0))) _) _)
            try simp only [Act.put, List.setIfInBounds_toArray, List.set_cons_succ, List.set_cons_zero]
            simp [go_sem, quietTo, Ext.refl, ↓IntWalk.iteOmega, f4, f8, hwx]
            all_goals try simp (disch := omega) only [IntWalk.i64_in]
            all_goals first
              | rfl
          refine fac_quiet 10 rfl rfl rfl (fun _ _ h _ => h) rfl rfl ?_
          apply Exists.intro
          refine ⟨fun sv w' hw' hfa => ?_, ?_⟩
          · obtain ⟨_, f1, f2, -⟩ := hfa
            replace f1 : sv 1 = _ := f1
            try dsimp only at f1
            replace f2 : sv 2 = _ := f2
            try dsimp only at f2
            have hk9 := (Ext.refl wr).drew.trans hw'; obtain ⟨y14, -⟩ := (hG.ext hk9).walk; obtain ⟨hc9, hff, hz9⟩ := hk9.walk; have v1 := (hc9 _ _ hbpl).trans c1; have v2 := (hc9 _ _ hLl).trans c2
            refine ⟨rfl, ?_⟩
            simp only [putsL]
            change quietTo _ _ _ _ (Sem.run _ (execOp (Act.eval (Act.put (Act.put (Act.put _ (some 106) (sv 2)) (some 105) (sv 1)) (some 104) (sv 0))) _) _)
            try simp only [Act.put, List.setIfInBounds_toArray, List.set_cons_succ, List.set_cons_zero]
            simp [go_sem, quietTo, Ext.refl, ↓IntWalk.iteOmega, f1, f2, hkI]
            all_goals try simp (disch := omega) only [IntWalk.i64_in]
            all_goals first
              | rfl
          refine fac_nil fun xq wrq herq hfrq hcrq holdq hapq => ?_
          obtain ⟨f0, f1, f2, f3, f4, f5, f6, f7, f8, f9, f10, -⟩ := hfrq
          replace f0 : xq 0 = _ := f0
          try dsimp only at f0
          replace f1 : xq 1 = _ := f1
          try dsimp only at f1
          replace f2 : xq 2 = _ := f2
          try dsimp only at f2
          replace f3 : xq 3 = _ := f3
          try dsimp only at f3
          replace f4 : xq 4 = _ := f4
          try dsimp only at f4
          replace f5 : xq 5 = _ := f5
          try dsimp only at f5
          replace f6 : xq 6 = _ := f6
          try dsimp only at f6
          replace f7 : xq 7 = _ := f7
          try dsimp only at f7
          replace f8 : xq 8 = _ := f8
          try dsimp only at f8
          replace f9 : xq 9 = _ := f9
          try dsimp only at f9
          replace f10 : xq 10 = _ := f10
          try dsimp only at f10
          change wpList _ _ _ _ (Act.put (Act.put (Act.put (Act.put (Act.put (Act.put (Act.put (Act.put (Act.put (Act.put (Act.put _ (some 104) (xq 0)) (some 105) (xq 1)) (some 106) (xq 2)) (some 107) (xq 3)) (some 108) (xq 4)) (some 109) (xq 5)) (some 110) (xq 6)) (some 111) (xq 7)) (some 112) (xq 8)) (some 113) (xq 9)) (some 114) (xq 10)) _
          simp only [putsL, Nat.reduceAdd, List.drop_succ_cons, List.drop_zero, List.drop_nil, Act.put, List.setIfInBounds_toArray, List.set_cons_succ, List.set_cons_zero]
          try simp only [f0, f1, f2, f3, f4, f5, f6, f7, f8, f9, f10]
          clear f0 f1 f2 f3 f4 f5 f6 f7 f8 f9 f10
          clear holdq hapq
          have hkq := (Ext.refl wr).drew.trans herq
          have hoq := own_ext hkq ho
          have hGq := hG.ext hkq
          have hEq := hE.trans hkq
          have d1 : wrq.cell? ⟨bp, k, none⟩ = some (.int .i64 x) := by
            have := own_cell intC_len hoq hmid.out 0 (v := .int .i64 x) rfl hkh
            simpa using this
          have hfz : ∀ o, wrq.frozen? ⟨bp, o, none⟩ = false := fun o => hoq.frozenAt o
          have hset := own_set1 intC_len hoq (x + y) hmid.out 0 (by decide) (.int .i64 (x + y)) rfl
          rw [hst.out] at hset
          simp only [Nat.mul_one, Nat.add_zero] at hset
          have hGs := hGq.far (p := ⟨bp, k, none⟩) (Ne.symm hne6) (.int .i64 (x + y))
          have hEs := hEq.setCell (p := ⟨bp, k, none⟩) hbp1 (.int .i64 (x + y))
          clear hoq hGq hEq hkq herq c1 c2 ho hG hE
          replace hset := Lib.hid hset
          go_wp2
          go_roundw
          case rel => exact ⟨k + 1, by go_num, by omega, hset.out, hGs, hEs⟩
          case measure => simp [intOf]; omega
        · obtain rfl : k = wide.length := by omega
          rw [List.take_of_length_le (by rw [hhl.out, hwh.out]; exact Nat.le_refl _), List.drop_eq_nil_of_le (by rw [hwh.out]; exact Nat.le_refl _), List.append_nil] at ho
          obtain ⟨qp, qc, hqe, hSl⟩ := slc_of_own intC_len ho (by decide) (by have := hwh.out; omega)
          cases hqe
          have hhb := hiL_bound (A := 5000) (fun v hv => ⟨(hok.out.ho v hv).1, h5k.out v hv⟩) hub.out
          have hsm : SmallL (hiL high LL) := fun v hv => by have := hhb v hv; omega
          have hMz := hMr.out.more hE
          have hSl2 : Slc 1 intC wr (some ⟨bp, 0, none⟩) (hiL high LL).length c5 (hiL high LL) := by rw [hhl.out]; exact hSl
          have hM2 : PsM wr pp pc P wp wc wide (some ⟨bp, 0, none⟩) c5 (hiL high LL) lp lc S := ⟨hMz.per, hMz.wid, hSl2, hMz.sta, hMz.sP, hMz.sw, hsm, hMz.sS, hMz.nP, hMz.nS⟩
          have hcs := fun u (hu : Ext wr u) => checkStage_any wp wc (some ⟨bp, 0, none⟩) c5 wide (hiL high LL) u (hM2.wid.ext hu) (hM2.hig.ext hu) hM2.sw hM2.sh
          have hEt := hEr.trans hE
          obtain ⟨y14, -⟩ := hG.walk
          have yl := hG.lt
          have hgood := fun (h2 : stageF wide (hiL high LL) = 0) u (hu : Ext wr u) => hides_good (hM2.more hu) (standsF_lift hsf.out h2)
          rw [hnone.out] at hgood
          simp only [hhl.out] at hcs hgood
          generalize stageF wide (hiL high LL) = sf2 at *
          replace hcs := Lib.hid hcs
          by_cases h2 : sf2 = 0
          · have hgd := hgood h2
            subst h2
            simp only [List.length_nil] at hgd
            replace hgd := Lib.hid hgd
            clear hgood hM2 hMz hSl2 hSl ho
            go_wp2_with (first
              | (go_at_call 8; (with_reducible refine Calls.mono (hcs.out _ (Ext.refl _)) ?_); rintro e w10 ⟨rfl, hb10⟩; clear y14 yl; obtain ⟨y15, -⟩ := (hG.ext hb10).walk; have yl15 := (hG.ext hb10).lt)
              | (go_at_call 11; (with_reducible refine Calls.mono (hgd.out _ hb10) ?_); rintro e w11 ⟨q11, c11, rfl, hs11, hb11⟩)
              | (go_at_call 25; refine (ready_any B _ (by exact ht.ext ((hEt.trans hb10).trans hb11))).mono ?_; rintro e wz ⟨rfl, hzz⟩))
            go_ret
            exact ⟨rfl, ((hEt.trans hb10).trans hb11).trans hzz⟩
          · clear hgood hM2 hMz hSl2 hSl ho
            go_wp2_with (first
              | (go_at_call 8; (with_reducible refine Calls.mono (hcs.out _ (Ext.refl _)) ?_); rintro e w10 ⟨rfl, hb10⟩)
              | (go_at_call 25; refine (ready_any B _ (by exact ht.ext (hEt.trans hb10))).mono ?_; rintro e wz ⟨rfl, hzz⟩))
            go_ret
            exact ⟨rfl, (hEt.trans hb10).trans hzz⟩
end Go.Proofs.YtfmkmnnmckbljaaGreatDoor
