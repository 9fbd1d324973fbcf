/- The greatest sum from a singer on: the recursion. Conditions: the choir and the divider lie in memory. -/
import Derived.Test.YtdehmioobkneiaaGreatDoorTdDvF
set_option linter.unusedSimpArgs false
set_option linter.unusedVariables false
namespace Go.Proofs.YtdehmioobkneiaaGreatDoor
open Go Go.RowKit Go.Maps
set_option maxRecDepth 100000 in
set_option maxHeartbeats 12800000 in
theorem from_any {w0 : World} {cb : Nat} {P : List PartV} {pp : Option Addr} {pc : Nat} {C : List (List Int)} {sp : Option Addr} {sc : Nat} {cp : Option Addr} {cc : Nat} (hC : ChoirM w0 cb P pp pc C sp sc cp cc) (hP4 : P.length ≤ 4) (hCl : C.length ≤ 24) (hCb : ∀ r ∈ C, ∀ x ∈ r, -2000 ≤ x ∧ x ≤ 2000)
    (db : Nat) (bp : Option Addr) (bc : Nat) (gs : List Nat) : ∀ (k i : Nat) (N : List Nat) (n : Nat) (w : World), i + k = C.length → NOk i N → n + tF k ≤ 100000000000000000 → DivM w0 w cb db bp bc gs P C n →
      Calls Tryz.prog 29 #[.pointer (some ⟨db, 0, none⟩), .int .i64 i, manV N] w (FromRes w0 w cb db bp bc gs P C (n + tF k) (fromF P (C.drop i) N)) := by
  intro k
  induction k with
  | zero =>
    intro i N n w hi hN hn hD
    obtain ⟨a, b, c, d, rfl⟩ := man4 hN.1
    obtain rfl : i = C.length := by omega
    have hE1 : Ext w (w.alloc (.cells #[.int .i64 a, .int .i64 b, .int .i64 c, .int .i64 d] 81)) := (Ext.refl _).alloc _
    have hB1 : Blk (w.alloc (.cells #[.int .i64 a, .int .i64 b, .int .i64 c, .int .i64 d] 81)) w.heap.size 81 #[.int .i64 a, .int .i64 b, .int .i64 c, .int .i64 d] := Blk.new' rfl
    have hfr : fromF P (C.drop C.length) [a, b, c, d] = if okEnd P [a, b, c, d] then 0 else -1 := by rw [List.drop_length]; rfl
    have hD1 := hD.more hE1
    have hBl := hB1.lt
    replace hfr := Lib.hid hfr
    have hD0 := Lib.hid hD
    replace hE1 := Lib.hid hE1; clear hD
    show Calls Tryz.prog 29 #[.pointer (some ⟨db, 0, none⟩), .int .i64 C.length, .agg #[.int .i64 a, .int .i64 b, .int .i64 c, .int .i64 d]] w _
    go_enter Tryz.func29, Tryz.ntmps29
    go_upto_region 1 with fail
    have hCw := hC.ext hD1.ext
    obtain ⟨z1, -⟩ := hD1.blk.walk
    obtain ⟨z2, -⟩ := hCw.blk.walk
    generalize w.heap.size = gB at *
    generalize w.alloc (.cells #[.int .i64 a, .int .i64 b, .int .i64 c, .int .i64 d] 81) = W1 at *
    replace hD1 := Lib.hid hD1; replace hCw := Lib.hid hCw; replace hB1 := Lib.hid hB1
    go_wp2
    go_loopw [31] (fun v31 wr => ∃ p : Nat, v31 = .int .i64 p ∧ p ≤ P.length ∧ (∀ q, q < p → leastP P q ≤ (([a, b, c, d] : List Nat).getD q 0 : Int)) ∧ Ext W1 wr) (fun v31 _ => P.length - (intOf v31).toNat)
    case atStart => exact ⟨0, rfl, Nat.zero_le _, (fun q hq => absurd hq (Nat.not_lt_zero q)), Ext.refl _⟩
    case round =>
      clear z1 z2
      obtain ⟨p, rfl, hp, hall, hE⟩ := hrel
      have hDf := (hD1.out.more hE).le (m := n + tF 0) (by omega)
      have hKf : Keeps gs _ _ := (hE1.out.trans hE).keeps
      by_cases hlt : p < P.length
      · obtain ⟨x, hx⟩ := getD_some (rfl : P.length = P.length) hlt
        obtain ⟨-, ⟨_, rfl⟩ | ⟨pb, poff, rfl, hpb, hpE⟩⟩ := slcC (hCw.out.par.ext hE)
        · cases hx
        obtain ⟨c0, c1, c2, c3, c4⟩ := hpE.part hx
        obtain ⟨a', b', c', d', y, -, hy, hcell, -⟩ := cells4 (a := a) (b := b) (c := c) (d := d) (show p < 4 by omega)
        have hle : leastP P p = x.least := by unfold leastP; rw [List.getD_eq_getElem?_getD, hx]; rfl
        have hpI : (p : Int) < P.length := by omega
        have hp4 : (p : Int) < 4 := by omega
        have hX : Blk (wr.alloc (.cells #[.string x.name, .int .i64 x.lo, .int .i64 x.hi, .int .i64 x.least, .int .i64 x.most] 46)) wr.heap.size 46 #[.string x.name, .int .i64 x.lo, .int .i64 x.hi, .int .i64 x.least, .int .i64 x.most] := Blk.new' rfl
        have hEx : Ext wr (wr.alloc (.cells #[.string x.name, .int .i64 x.lo, .int .i64 x.hi, .int .i64 x.least, .int .i64 x.most] 46)) := (Ext.refl _).alloc _
        have hBx := hB1.out.ext (hE.trans hEx)
        have hEz := hE.trans hEx
        have hsn : (y : Int) < x.least ∨ leastP P p ≤ (([a, b, c, d] : List Nat).getD p 0 : Int) := by rw [hle, hy]; omega
        replace hx := Lib.hid hx; replace hle := Lib.hid hle; replace hy := Lib.hid hy; replace hall := Lib.hid hall; clear hpE hDf hKf
        go_upto_region 5 with fail
        generalize wr.alloc (.cells #[.string x.name, .int .i64 x.lo, .int .i64 x.hi, .int .i64 x.least, .int .i64 x.most] 46) = W3 at *
        generalize wr.heap.size = gx at *
        clear c0 c1 c2 c3 c4 hE hEx
        by_cases hyl : (y : Int) < x.least
        · have hno : okEnd P [a, b, c, d] = false := by
            cases ho : okEnd P [a, b, c, d]
            · rfl
            · have h1 := List.all_eq_true.1 ho p (List.mem_range.2 hlt)
              have h2 := of_decide_eq_true h1
              rw [hle.out, hy.out] at h2
              omega
          have hr2 := hfr.out
          rw [hno, if_neg (by decide)] at hr2
          replace hr2 := Lib.hid hr2; clear hsn
          refine wp_region_facts [] [([], false, false), ([0], false, false), ([0, 1], false, false), ([], false, false), ([3], false, false), ([0, 1, 2, 3, 4], false, false)] (Ext) Ext (fun _ => True) (by kernel_rfl) (by kernel_rfl) Ext.refl (fun _ _ _ => Ext.trans) (fun _ _ h => h) (fun _ _ h => h.size) (fun _ _ h _ => h) trivial ?_
          dsimp only [List.length_cons, List.length_nil, List.drop_succ_cons, List.drop_zero, List.drop_nil]
          refine fac_quiet 0 rfl rfl rfl (fun _ _ h _ => h) rfl rfl ?_
          apply Exists.intro
          refine ⟨fun sv w' hw' hfa => ?_, ?_⟩
          · refine ⟨rfl, ?_⟩
            simp only [putsL]
            change quietTo _ _ _ _ (Sem.run _ (execOp (Act.eval _) _) _)
            try simp only [Act.put, sIA, sCS, sCZ]
            simp [go_sem, quietTo, Ext.refl]
            all_goals first
              | rfl
          refine fac_quiet 1 rfl rfl rfl (fun _ _ h _ => h) rfl rfl ?_
          apply Exists.intro
          refine ⟨fun sv w' hw' hfa => ?_, ?_⟩
          · obtain ⟨f0, -⟩ := hfa
            replace f0 : sv 0 = _ := f0; (try dsimp only at f0)
            have hk9 := (Ext.refl W3).drew.trans hw'; obtain ⟨y1, -⟩ := (hBx.ext hk9).walk; obtain ⟨y2, -⟩ := (hX.ext hk9).walk
            refine ⟨rfl, ?_⟩
            simp only [putsL]
            change quietTo _ _ _ _ (Sem.run _ (execOp (Act.eval (Act.put _ (some 36) (sv 0))) _) _)
            try simp only [Act.put, sIA, sCS, sCZ]
            simp [go_sem, quietTo, Ext.refl, ↓IntWalk.iteOmega, f0, hp4]
            all_goals try simp (disch := omega) only [IntWalk.i64_in]
            all_goals first
              | rfl
          refine fac_quiet 2 rfl rfl rfl (fun _ _ h _ => h) rfl rfl ?_
          apply Exists.intro
          refine ⟨fun sv w' hw' hfa => ?_, ?_⟩
          · obtain ⟨_, f1, -⟩ := hfa
            replace f1 : sv 1 = _ := f1; (try dsimp only at f1)
            have hk9 := (Ext.refl W3).drew.trans hw'; obtain ⟨y1, -⟩ := (hBx.ext hk9).walk; obtain ⟨y2, -⟩ := (hX.ext hk9).walk
            refine ⟨rfl, ?_⟩
            simp only [putsL]
            change quietTo _ _ _ _ (Sem.run _ (execOp (Act.eval (Act.put (Act.put _ (some 37) (sv 1)) (some 36) (sv 0))) _) _)
            try simp only [Act.put, sIA, sCS, sCZ]
            simp [go_sem, quietTo, Ext.refl, ↓IntWalk.iteOmega, f1, y1, hcell]
            all_goals try simp (disch := omega) only [IntWalk.i64_in]
            all_goals first
              | rfl
          refine fac_quiet 3 rfl rfl rfl (fun _ _ h _ => h) rfl rfl ?_
          apply Exists.intro
          refine ⟨fun sv w' hw' hfa => ?_, ?_⟩
          · refine ⟨rfl, ?_⟩
            simp only [putsL]
            change quietTo _ _ _ _ (Sem.run _ (execOp (Act.eval _) _) _)
            try simp only [Act.put, sIA, sCS, sCZ]
            simp [go_sem, quietTo, Ext.refl]
            all_goals first
              | rfl
          refine fac_quiet 4 rfl rfl rfl (fun _ _ h _ => h) rfl rfl ?_
          apply Exists.intro
          refine ⟨fun sv w' hw' hfa => ?_, ?_⟩
          · obtain ⟨f3, -⟩ := hfa
            replace f3 : sv 3 = _ := f3; (try dsimp only at f3)
            have hk9 := (Ext.refl W3).drew.trans hw'; obtain ⟨y1, -⟩ := (hBx.ext hk9).walk; obtain ⟨y2, -⟩ := (hX.ext hk9).walk
            refine ⟨rfl, ?_⟩
            simp only [putsL]
            change quietTo _ _ _ _ (Sem.run _ (execOp (Act.eval (Act.put _ (some 39) (sv 3))) _) _)
            try simp only [Act.put, sIA, sCS, sCZ]
            simp [go_sem, quietTo, Ext.refl, ↓IntWalk.iteOmega, f3, y2]
            all_goals try simp (disch := omega) only [IntWalk.i64_in]
            all_goals first
              | rfl
          refine fac_quiet 5 rfl rfl rfl (fun _ _ h _ => h) rfl rfl ?_
          apply Exists.intro
          refine ⟨fun sv w' hw' hfa => ?_, ?_⟩
          · obtain ⟨_, _, f2, _, f4, -⟩ := hfa
            replace f2 : sv 2 = _ := f2; (try dsimp only at f2); replace f4 : sv 4 = _ := f4; (try dsimp only at f4)
            have hk9 := (Ext.refl W3).drew.trans hw'; obtain ⟨y1, -⟩ := (hBx.ext hk9).walk; obtain ⟨y2, -⟩ := (hX.ext hk9).walk
            refine ⟨rfl, ?_⟩
            simp only [putsL]
            change quietTo _ _ _ _ (Sem.run _ (execOp (Act.eval (Act.put (Act.put (Act.put (Act.put (Act.put _ (some 40) (sv 4)) (some 39) (sv 3)) (some 38) (sv 2)) (some 37) (sv 1)) (some 36) (sv 0))) _) _)
            try simp only [Act.put, sIA, sCS, sCZ]
            simp [go_sem, quietTo, Ext.refl, ↓IntWalk.iteOmega, f2, f4, hyl]
            all_goals try simp (disch := omega) only [IntWalk.i64_in]
            all_goals first
              | rfl
          refine fac_nil fun xa wra hera hfra hcra holda hapa => ?_
          obtain ⟨f0, f1, f2, f3, f4, f5, -⟩ := hfra
          replace f0 : xa 0 = _ := f0
          (try dsimp only at f0)
          replace f1 : xa 1 = _ := f1
          (try dsimp only at f1)
          replace f2 : xa 2 = _ := f2
          (try dsimp only at f2)
          replace f3 : xa 3 = _ := f3
          (try dsimp only at f3)
          replace f4 : xa 4 = _ := f4
          (try dsimp only at f4)
          replace f5 : xa 5 = _ := f5
          (try dsimp only at f5)
          change wpList _ _ _ _ (Act.put (Act.put (Act.put (Act.put (Act.put (Act.put _ (some 36) (xa 0)) (some 37) (xa 1)) (some 38) (xa 2)) (some 39) (xa 3)) (some 40) (xa 4)) (some 41) (xa 5)) _
          simp only [putsL, Nat.reduceAdd, List.drop_succ_cons, List.drop_zero, List.drop_nil, Act.put, sIA, sCS, sCZ]
          try simp only [f0, f1, f2, f3, f4, f5]
          clear f0 f1 f2 f3 f4 f5; clear holda hapa
          have hEf := hEz.trans ((Ext.refl W3).drew.trans hera)
          go_wp2
          go_ret
          exact ⟨ret_int hr2.out.symm, (hD1.out.more hEf).le (by omega), (hE1.out.trans hEf).keeps⟩
        · have hsn2 := hsn.resolve_left hyl
          replace hsn2 := Lib.hid hsn2; clear hsn
          refine wp_region_facts [] [([], false, false), ([0], false, false), ([0, 1], false, false), ([], false, false), ([3], false, false), ([0, 1, 2, 3, 4], false, false)] (Ext) Ext (fun _ => True) (by kernel_rfl) (by kernel_rfl) Ext.refl (fun _ _ _ => Ext.trans) (fun _ _ h => h) (fun _ _ h => h.size) (fun _ _ h _ => h) trivial ?_
          dsimp only [List.length_cons, List.length_nil, List.drop_succ_cons, List.drop_zero, List.drop_nil]
          refine fac_quiet 0 rfl rfl rfl (fun _ _ h _ => h) rfl rfl ?_
          apply Exists.intro
          refine ⟨fun sv w' hw' hfa => ?_, ?_⟩
          · refine ⟨rfl, ?_⟩
            simp only [putsL]
            change quietTo _ _ _ _ (Sem.run _ (execOp (Act.eval _) _) _)
            try simp only [Act.put, sIA, sCS, sCZ]
            simp [go_sem, quietTo, Ext.refl]
            all_goals first
              | rfl
          refine fac_quiet 1 rfl rfl rfl (fun _ _ h _ => h) rfl rfl ?_
          apply Exists.intro
          refine ⟨fun sv w' hw' hfa => ?_, ?_⟩
          · obtain ⟨f0, -⟩ := hfa
            replace f0 : sv 0 = _ := f0; (try dsimp only at f0)
            have hk9 := (Ext.refl W3).drew.trans hw'; obtain ⟨y1, -⟩ := (hBx.ext hk9).walk; obtain ⟨y2, -⟩ := (hX.ext hk9).walk
            refine ⟨rfl, ?_⟩
            simp only [putsL]
            change quietTo _ _ _ _ (Sem.run _ (execOp (Act.eval (Act.put _ (some 36) (sv 0))) _) _)
            try simp only [Act.put, sIA, sCS, sCZ]
            simp [go_sem, quietTo, Ext.refl, ↓IntWalk.iteOmega, f0, hp4]
            all_goals try simp (disch := omega) only [IntWalk.i64_in]
            all_goals first
              | rfl
          refine fac_quiet 2 rfl rfl rfl (fun _ _ h _ => h) rfl rfl ?_
          apply Exists.intro
          refine ⟨fun sv w' hw' hfa => ?_, ?_⟩
          · obtain ⟨_, f1, -⟩ := hfa
            replace f1 : sv 1 = _ := f1; (try dsimp only at f1)
            have hk9 := (Ext.refl W3).drew.trans hw'; obtain ⟨y1, -⟩ := (hBx.ext hk9).walk; obtain ⟨y2, -⟩ := (hX.ext hk9).walk
            refine ⟨rfl, ?_⟩
            simp only [putsL]
            change quietTo _ _ _ _ (Sem.run _ (execOp (Act.eval (Act.put (Act.put _ (some 37) (sv 1)) (some 36) (sv 0))) _) _)
            try simp only [Act.put, sIA, sCS, sCZ]
            simp [go_sem, quietTo, Ext.refl, ↓IntWalk.iteOmega, f1, y1, hcell]
            all_goals try simp (disch := omega) only [IntWalk.i64_in]
            all_goals first
              | rfl
          refine fac_quiet 3 rfl rfl rfl (fun _ _ h _ => h) rfl rfl ?_
          apply Exists.intro
          refine ⟨fun sv w' hw' hfa => ?_, ?_⟩
          · refine ⟨rfl, ?_⟩
            simp only [putsL]
            change quietTo _ _ _ _ (Sem.run _ (execOp (Act.eval _) _) _)
            try simp only [Act.put, sIA, sCS, sCZ]
            simp [go_sem, quietTo, Ext.refl]
            all_goals first
              | rfl
          refine fac_quiet 4 rfl rfl rfl (fun _ _ h _ => h) rfl rfl ?_
          apply Exists.intro
          refine ⟨fun sv w' hw' hfa => ?_, ?_⟩
          · obtain ⟨f3, -⟩ := hfa
            replace f3 : sv 3 = _ := f3; (try dsimp only at f3)
            have hk9 := (Ext.refl W3).drew.trans hw'; obtain ⟨y1, -⟩ := (hBx.ext hk9).walk; obtain ⟨y2, -⟩ := (hX.ext hk9).walk
            refine ⟨rfl, ?_⟩
            simp only [putsL]
            change quietTo _ _ _ _ (Sem.run _ (execOp (Act.eval (Act.put _ (some 39) (sv 3))) _) _)
            try simp only [Act.put, sIA, sCS, sCZ]
            simp [go_sem, quietTo, Ext.refl, ↓IntWalk.iteOmega, f3, y2]
            all_goals try simp (disch := omega) only [IntWalk.i64_in]
            all_goals first
              | rfl
          refine fac_quiet 5 rfl rfl rfl (fun _ _ h _ => h) rfl rfl ?_
          apply Exists.intro
          refine ⟨fun sv w' hw' hfa => ?_, ?_⟩
          · obtain ⟨_, _, f2, _, f4, -⟩ := hfa
            replace f2 : sv 2 = _ := f2; (try dsimp only at f2); replace f4 : sv 4 = _ := f4; (try dsimp only at f4)
            have hk9 := (Ext.refl W3).drew.trans hw'; obtain ⟨y1, -⟩ := (hBx.ext hk9).walk; obtain ⟨y2, -⟩ := (hX.ext hk9).walk
            refine ⟨rfl, ?_⟩
            simp only [putsL]
            change quietTo _ _ _ _ (Sem.run _ (execOp (Act.eval (Act.put (Act.put (Act.put (Act.put (Act.put _ (some 40) (sv 4)) (some 39) (sv 3)) (some 38) (sv 2)) (some 37) (sv 1)) (some 36) (sv 0))) _) _)
            try simp only [Act.put, sIA, sCS, sCZ]
            simp [go_sem, quietTo, Ext.refl, ↓IntWalk.iteOmega, f2, f4, hyl]
            all_goals try simp (disch := omega) only [IntWalk.i64_in]
            all_goals first
              | rfl
          refine fac_nil fun xb wrb herb hfrb hcrb holdb hapb => ?_
          obtain ⟨f0, f1, f2, f3, f4, f5, -⟩ := hfrb
          replace f0 : xb 0 = _ := f0
          (try dsimp only at f0)
          replace f1 : xb 1 = _ := f1
          (try dsimp only at f1)
          replace f2 : xb 2 = _ := f2
          (try dsimp only at f2)
          replace f3 : xb 3 = _ := f3
          (try dsimp only at f3)
          replace f4 : xb 4 = _ := f4
          (try dsimp only at f4)
          replace f5 : xb 5 = _ := f5
          (try dsimp only at f5)
          change wpList _ _ _ _ (Act.put (Act.put (Act.put (Act.put (Act.put (Act.put _ (some 36) (xb 0)) (some 37) (xb 1)) (some 38) (xb 2)) (some 39) (xb 3)) (some 40) (xb 4)) (some 41) (xb 5)) _
          simp only [putsL, Nat.reduceAdd, List.drop_succ_cons, List.drop_zero, List.drop_nil, Act.put, sIA, sCS, sCZ]
          try simp only [f0, f1, f2, f3, f4, f5]
          clear f0 f1 f2 f3 f4 f5; clear holdb hapb
          have hEf := hEz.trans ((Ext.refl W3).drew.trans herb)
          go_wp2
          go_roundw
          case rel => exact ⟨p + 1, by go_num, by omega, (fun q hq => by
            rcases Nat.lt_or_ge q p with h1 | h1
            · exact hall.out q h1
            · obtain rfl : q = p := by omega
              exact hsn2.out), hEf⟩
          case measure => simp [intOf]; omega
      · obtain rfl : p = P.length := by omega
        have hyes : okEnd P [a, b, c, d] = true := by
          unfold okEnd
          rw [List.all_eq_true]
          intro q hq
          exact decide_eq_true (hall q (List.mem_range.1 hq))
        have hr2 := hfr.out
        rw [hyes, if_pos rfl] at hr2
        replace hr2 := Lib.hid hr2; clear hall
        go_wp2
        go_ret
        exact ⟨ret_int hr2.out.symm, hDf, hKf⟩
  | succ k ih =>
    intro i N n w hi hN hn hD
    obtain ⟨a, b, c, d, rfl⟩ := man4 hN.1
    have hil : i < C.length := by omega
    obtain ⟨g, hg⟩ := getD_some hD.len hil
    have hE1 : Ext w (w.alloc (.cells #[.int .i64 a, .int .i64 b, .int .i64 c, .int .i64 d] 81)) := (Ext.refl _).alloc _
    have hB1 : Blk (w.alloc (.cells #[.int .i64 a, .int .i64 b, .int .i64 c, .int .i64 d] 81)) w.heap.size 81 #[.int .i64 a, .int .i64 b, .int .i64 c, .int .i64 d] := Blk.new' rfl
    have hfr : fromF P (C.drop i) [a, b, c, d] = maxT (withV P (fromF P (C.drop (i + 1))) (C.getD i []) [a, b, c, d]) P.length := by rw [drop_at hil]; rfl
    have hD1 := hD.more hE1
    have hman : ManOk [a, b, c, d] := hN.man (by omega)
    have htf : P.length * tF k ≤ 4 * tF k := Nat.mul_le_mul_right _ hP4
    have htk : tF (k + 1) = 1 + 4 * tF k := rfl
    have hfin : ∀ m, m ≤ P.length * tF k → n + m + 1 ≤ n + tF (k + 1) := fun m hm => by omega
    have hw := fun (n' p : Nat) (u : World) (hp : p < P.length) (hn' : n' + tF k ≤ 100000000000000000) (hu : DivM w0 u cb db bp bc gs P C n') => with_any hC hP4 hCl hCb db bp bc gs k i hi (fun N' m u' hN' hm hu' => by
      have := ih (i + 1) N' m u' (by omega) hN' hm hu'
      rw [show ((i + 1 : Nat) : Int) = (i : Int) + 1 by omega] at this
      exact this) [a, b, c, d] n' p u hN hp hn' hu
    have hw2 : ∀ (n' p : Nat) (u : World), p < P.length → n' + tF k ≤ 100000000000000000 → DivM w0 u cb db bp bc gs P C n' → Calls Tryz.prog 30 #[.pointer (some ⟨db, 0, none⟩), .int .i64 i, .agg #[.int .i64 a, .int .i64 b, .int .i64 c, .int .i64 d], .int .i64 p] u (FromRes w0 u cb db bp bc gs P C (n' + tF k) (withV P (fromF P (C.drop (i + 1))) (C.getD i []) [a, b, c, d] p)) := hw
    have hne : ((i : Int) == (C.length : Int)) = false := beq_false_of_ne (by omega)
    have hiI : (i : Int) < gs.length := by rw [hD.len]; omega
    have hiC : ¬ (i : Int) = (C.length : Int) := by omega
    clear hw ih; replace hfr := Lib.hid hfr; replace hD0 := Lib.hid hD; replace hw2 := Lib.hid hw2; replace hE1 := Lib.hid hE1; replace hman := Lib.hid hman; replace hCb := Lib.hid hCb; replace hN := Lib.hid hN; replace htk := Lib.hid htk; replace hfin := Lib.hid hfin; clear hD hD0
    show Calls Tryz.prog 29 #[.pointer (some ⟨db, 0, none⟩), .int .i64 i, .agg #[.int .i64 a, .int .i64 b, .int .i64 c, .int .i64 d]] w _
    go_enter Tryz.func29, Tryz.ntmps29
    go_upto_region 1 with fail
    have hCw := hC.ext hD1.ext
    obtain ⟨z1, -⟩ := hD1.blk.walk
    obtain ⟨z2, -⟩ := hCw.blk.walk
    generalize w.heap.size = gB at *
    generalize w.alloc (.cells #[.int .i64 a, .int .i64 b, .int .i64 c, .int .i64 d] 81) = W1 at *
    obtain ⟨f, ho, hf⟩ := hD1.maps i g hg
    have hlk : ∀ u, Ext W1 u → (Instr.lookup 137 (.map (some g)) (.agg #[.int .i64 a, .int .i64 b, .int .i64 c, .int .i64 d]) true).run Tryz.prog u = .ok (.tuple #[.int .i64 ((f [a, b, c, d]).getD 0), .bool (f [a, b, c, d]).isSome]) u := fun u hu => (ho.ext hu).look_ok hman.out
    obtain ⟨bb, boff, rfl, hbb, hbc⟩ := hD1.at_ hg
    have hfs := fun s h => hf [a, b, c, d] s hman.out h
    replace hg := Lib.hid hg; replace hlk := Lib.hid hlk; replace hCw := Lib.hid hCw
    go_upto_region 9 with fail
    clear z1 z2 ho hf
    cases hfN : f [a, b, c, d] with
    | some s =>
      have hs := hfs s hfN
      rw [hfN] at hlk
      have hlk2 : ∀ u, Ext W1 u → (Instr.lookup 137 (.map (some g)) (.agg #[.int .i64 a, .int .i64 b, .int .i64 c, .int .i64 d]) true).run Tryz.prog u = .ok (.tuple #[.int .i64 s, .bool true]) u := hlk.out
      replace hlk2 := Lib.hid hlk2; replace hs := Lib.hid hs; replace hfN := Lib.hid hfN; clear hlk hfs
      refine wp_region_facts [11] [([], false, false), ([0], false, false), ([0, 1], false, false), ([0, 1, 2], false, false), ([], false, false), ([0, 1, 2, 3, 4], false, false), ([0, 1, 2, 3, 4, 5], false, false), ([], false, false), ([0, 1, 2, 3, 4, 5, 6, 7], false, false), ([0, 1, 2, 3, 4, 5, 6, 7, 8], false, false), ([0, 1, 2, 3, 4, 5, 6, 7, 8, 9], false, false), ([0, 1, 2, 3, 4, 5, 6, 7, 8, 9], false, false)] (Ext) Ext (fun _ => True) (by kernel_rfl) (by kernel_rfl) Ext.refl (fun _ _ _ => Ext.trans) (fun _ _ h => h) (fun _ _ h => h.size) (fun _ _ h _ => h) trivial ?_
      dsimp only [List.length_cons, List.length_nil, List.drop_succ_cons, List.drop_zero, List.drop_nil]
      refine fac_quiet 0 rfl rfl rfl (fun _ _ h _ => h) rfl rfl ?_
      apply Exists.intro
      refine ⟨fun sv w' hw' hfa => ?_, ?_⟩
      · refine ⟨rfl, ?_⟩
        simp only [putsL]
        change quietTo _ _ _ _ (Sem.run _ (execOp (Act.eval _) _) _)
        try simp only [Act.put, sIA, sCS, sCZ]
        simp [go_sem, quietTo, Ext.refl]
        all_goals first
          | rfl
      refine fac_quiet 1 rfl rfl rfl (fun _ _ h _ => h) rfl rfl ?_
      apply Exists.intro
      refine ⟨fun sv w' hw' hfa => ?_, ?_⟩
      · obtain ⟨f0, -⟩ := hfa
        replace f0 : sv 0 = _ := f0; (try dsimp only at f0)
        refine ⟨rfl, ?_⟩
        simp only [putsL]
        change quietTo _ _ _ _ (Sem.run _ (execOp (Act.eval (Act.put _ (some 44) (sv 0))) _) _)
        try simp only [Act.put, sIA, sCS, sCZ]
        simp [go_sem, quietTo, Ext.refl, f0]
        all_goals first
          | rfl
      refine fac_quiet 2 rfl rfl rfl (fun _ _ h _ => h) rfl rfl ?_
      apply Exists.intro
      refine ⟨fun sv w' hw' hfa => ?_, ?_⟩
      · obtain ⟨_, f1, -⟩ := hfa
        replace f1 : sv 1 = _ := f1; (try dsimp only at f1)
        refine ⟨rfl, ?_⟩
        simp only [putsL]
        change quietTo _ _ _ _ (Sem.run _ (execOp (Act.eval (Act.put (Act.put _ (some 45) (sv 1)) (some 44) (sv 0))) _) _)
        try simp only [Act.put, sIA, sCS, sCZ]
        simp [go_sem, quietTo, Ext.refl, f1]
        all_goals first
          | rfl
      refine fac_quiet 3 rfl rfl rfl (fun _ _ h _ => h) rfl rfl ?_
      apply Exists.intro
      refine ⟨fun sv w' hw' hfa => ?_, ?_⟩
      · obtain ⟨_, _, f2, -⟩ := hfa
        replace f2 : sv 2 = _ := f2; (try dsimp only at f2)
        have hk9 := (Ext.refl W1).drew.trans hw'; obtain ⟨y1, -⟩ := (hD1.blk.ext hk9).walk; have y2 := (hk9.walk.1 _ _ hbb).trans hbc; obtain ⟨y3, -⟩ := (hB1.ext hk9).walk; have y4 := hlk2.out w' hk9
        refine ⟨rfl, ?_⟩
        simp only [putsL]
        change quietTo _ _ _ _ (Sem.run _ (execOp (Act.eval (Act.put (Act.put (Act.put _ (some 46) (sv 2)) (some 45) (sv 1)) (some 44) (sv 0))) _) _)
        try simp only [Act.put, sIA, sCS, sCZ]
        simp [go_sem, quietTo, Ext.refl, ↓IntWalk.iteOmega, f2, y1]
        all_goals try simp (disch := omega) only [IntWalk.i64_in]
        all_goals first
          | rfl
      refine fac_quiet 4 rfl rfl rfl (fun _ _ h _ => h) rfl rfl ?_
      apply Exists.intro
      refine ⟨fun sv w' hw' hfa => ?_, ?_⟩
      · refine ⟨rfl, ?_⟩
        simp only [putsL]
        change quietTo _ _ _ _ (Sem.run _ (execOp (Act.eval _) _) _)
        try simp only [Act.put, sIA, sCS, sCZ]
        simp [go_sem, quietTo, Ext.refl]
        all_goals first
          | rfl
      refine fac_quiet 5 rfl rfl rfl (fun _ _ h _ => h) rfl rfl ?_
      apply Exists.intro
      refine ⟨fun sv w' hw' hfa => ?_, ?_⟩
      · obtain ⟨_, _, _, f3, f4, -⟩ := hfa
        replace f3 : sv 3 = _ := f3; (try dsimp only at f3); replace f4 : sv 4 = _ := f4; (try dsimp only at f4)
        have hk9 := (Ext.refl W1).drew.trans hw'; obtain ⟨y1, -⟩ := (hD1.blk.ext hk9).walk; have y2 := (hk9.walk.1 _ _ hbb).trans hbc; obtain ⟨y3, -⟩ := (hB1.ext hk9).walk; have y4 := hlk2.out w' hk9
        refine ⟨rfl, ?_⟩
        simp only [putsL]
        change quietTo _ _ _ _ (Sem.run _ (execOp (Act.eval (Act.put (Act.put (Act.put (Act.put (Act.put _ (some 48) (sv 4)) (some 47) (sv 3)) (some 46) (sv 2)) (some 45) (sv 1)) (some 44) (sv 0))) _) _)
        try simp only [Act.put, sIA, sCS, sCZ]
        simp [go_sem, quietTo, Ext.refl, ↓IntWalk.iteOmega, f3, f4, hiI]
        all_goals try simp (disch := omega) only [IntWalk.i64_in]
        all_goals first
          | rfl
      refine fac_quiet 6 rfl rfl rfl (fun _ _ h _ => h) rfl rfl ?_
      apply Exists.intro
      refine ⟨fun sv w' hw' hfa => ?_, ?_⟩
      · obtain ⟨_, _, _, _, _, f5, -⟩ := hfa
        replace f5 : sv 5 = _ := f5; (try dsimp only at f5)
        have hk9 := (Ext.refl W1).drew.trans hw'; obtain ⟨y1, -⟩ := (hD1.blk.ext hk9).walk; have y2 := (hk9.walk.1 _ _ hbb).trans hbc; obtain ⟨y3, -⟩ := (hB1.ext hk9).walk; have y4 := hlk2.out w' hk9
        refine ⟨rfl, ?_⟩
        simp only [putsL]
        change quietTo _ _ _ _ (Sem.run _ (execOp (Act.eval (Act.put (Act.put (Act.put (Act.put (Act.put (Act.put _ (some 49) (sv 5)) (some 48) (sv 4)) (some 47) (sv 3)) (some 46) (sv 2)) (some 45) (sv 1)) (some 44) (sv 0))) _) _)
        try simp only [Act.put, sIA, sCS, sCZ]
        simp [go_sem, quietTo, Ext.refl, ↓IntWalk.iteOmega, f5, y2]
        all_goals try simp (disch := omega) only [IntWalk.i64_in]
        all_goals first
          | rfl
      refine fac_quiet 7 rfl rfl rfl (fun _ _ h _ => h) rfl rfl ?_
      apply Exists.intro
      refine ⟨fun sv w' hw' hfa => ?_, ?_⟩
      · have hk9 := (Ext.refl W1).drew.trans hw'; obtain ⟨y1, -⟩ := (hD1.blk.ext hk9).walk; have y2 := (hk9.walk.1 _ _ hbb).trans hbc; obtain ⟨y3, -⟩ := (hB1.ext hk9).walk; have y4 := hlk2.out w' hk9
        refine ⟨rfl, ?_⟩
        simp only [putsL]
        change quietTo _ _ _ _ (Sem.run _ (execOp (Act.eval _) _) _)
        try simp only [Act.put, sIA, sCS, sCZ]
        simp [go_sem, quietTo, Ext.refl, ↓IntWalk.iteOmega, y3]
        all_goals try simp (disch := omega) only [IntWalk.i64_in]
        all_goals first
          | rfl
      refine fac_quiet 8 rfl rfl rfl (fun _ _ h _ => h) rfl rfl ?_
      apply Exists.intro
      refine ⟨fun sv w' hw' hfa => ?_, ?_⟩
      · obtain ⟨_, _, _, _, _, _, f6, f7, -⟩ := hfa
        replace f6 : sv 6 = _ := f6; (try dsimp only at f6); replace f7 : sv 7 = _ := f7; (try dsimp only at f7)
        have hk9 := (Ext.refl W1).drew.trans hw'; obtain ⟨y1, -⟩ := (hD1.blk.ext hk9).walk; have y2 := (hk9.walk.1 _ _ hbb).trans hbc; obtain ⟨y3, -⟩ := (hB1.ext hk9).walk; have y4 := hlk2.out w' hk9
        refine ⟨rfl, ?_⟩
        simp only [putsL]
        change quietTo _ _ _ _ (Sem.run _ (execOp (Act.eval (Act.put (Act.put (Act.put (Act.put (Act.put (Act.put (Act.put (Act.put _ (some 51) (sv 7)) (some 50) (sv 6)) (some 49) (sv 5)) (some 48) (sv 4)) (some 47) (sv 3)) (some 46) (sv 2)) (some 45) (sv 1)) (some 44) (sv 0))) _) _)
        try simp only [Act.put, sIA, sCS, sCZ]
        simp [go_sem, quietTo, Ext.refl, ↓IntWalk.iteOmega, f6, f7, y4]
        all_goals try simp (disch := omega) only [IntWalk.i64_in]
        all_goals first
          | rfl
      refine fac_quiet 9 rfl rfl rfl (fun _ _ h _ => h) rfl rfl ?_
      apply Exists.intro
      refine ⟨fun sv w' hw' hfa => ?_, ?_⟩
      · obtain ⟨_, _, _, _, _, _, _, _, f8, -⟩ := hfa
        replace f8 : sv 8 = _ := f8; (try dsimp only at f8)
        refine ⟨rfl, ?_⟩
        simp only [putsL]
        change quietTo _ _ _ _ (Sem.run _ (execOp (Act.eval (Act.put (Act.put (Act.put (Act.put (Act.put (Act.put (Act.put (Act.put (Act.put _ (some 52) (sv 8)) (some 51) (sv 7)) (some 50) (sv 6)) (some 49) (sv 5)) (some 48) (sv 4)) (some 47) (sv 3)) (some 46) (sv 2)) (some 45) (sv 1)) (some 44) (sv 0))) _) _)
        try simp only [Act.put, sIA, sCS, sCZ]
        simp [go_sem, quietTo, Ext.refl, f8]
        all_goals first
          | rfl
      refine fac_quiet 10 rfl rfl rfl (fun _ _ h _ => h) rfl rfl ?_
      apply Exists.intro
      refine ⟨fun sv w' hw' hfa => ?_, ?_⟩
      · obtain ⟨_, _, _, _, _, _, _, _, _, f9, -⟩ := hfa
        replace f9 : sv 9 = _ := f9; (try dsimp only at f9)
        refine ⟨rfl, ?_⟩
        simp only [putsL]
        change quietTo _ _ _ _ (Sem.run _ (execOp (Act.eval (Act.put (Act.put (Act.put (Act.put (Act.put (Act.put (Act.put (Act.put (Act.put (Act.put _ (some 43) (sv 9)) (some 52) (sv 8)) (some 51) (sv 7)) (some 50) (sv 6)) (some 49) (sv 5)) (some 48) (sv 4)) (some 47) (sv 3)) (some 46) (sv 2)) (some 45) (sv 1)) (some 44) (sv 0))) _) _)
        try simp only [Act.put, sIA, sCS, sCZ]
        simp [go_sem, quietTo, Ext.refl, f9]
        all_goals first
          | rfl
      refine fac_late 11 rfl rfl Ext.refl (fun _ _ h _ => h) rfl rfl (fun _ _ _ _ h => h) ?_
      apply Exists.intro
      refine ⟨fun sv w' hw' hfa => ?_, ?_⟩
      · obtain ⟨_, _, _, _, _, _, _, _, _, f9, -⟩ := hfa
        replace f9 : sv 9 = _ := f9; (try dsimp only at f9)
        refine ⟨rfl, fun w2 => ?_⟩
        simp only [putsL]
        change pureTo _ _ (Sem.run _ (execOp (Act.eval (Act.put (Act.put (Act.put (Act.put (Act.put (Act.put (Act.put (Act.put (Act.put (Act.put _ (some 43) (sv 9)) (some 52) (sv 8)) (some 51) (sv 7)) (some 50) (sv 6)) (some 49) (sv 5)) (some 48) (sv 4)) (some 47) (sv 3)) (some 46) (sv 2)) (some 45) (sv 1)) (some 44) (sv 0))) _) _)
        try simp only [Act.put, sIA, sCS, sCZ]
        simp [go_sem, pureTo, f9]
        all_goals try simp (disch := omega) only [IntWalk.i64_in]
        all_goals first
          | rfl
      refine fac_nil fun xa wra hera hfra hcra holda hapa => ?_
      obtain ⟨f0, f1, f2, f3, f4, f5, f6, f7, f8, f9, f10, f11, -⟩ := hfra
      replace f0 : xa 0 = _ := f0
      (try dsimp only at f0)
      replace f1 : xa 1 = _ := f1
      (try dsimp only at f1)
      replace f2 : xa 2 = _ := f2
      (try dsimp only at f2)
      replace f3 : xa 3 = _ := f3
      (try dsimp only at f3)
      replace f4 : xa 4 = _ := f4
      (try dsimp only at f4)
      replace f5 : xa 5 = _ := f5
      (try dsimp only at f5)
      replace f6 : xa 6 = _ := f6
      (try dsimp only at f6)
      replace f7 : xa 7 = _ := f7
      (try dsimp only at f7)
      replace f8 : xa 8 = _ := f8
      (try dsimp only at f8)
      replace f9 : xa 9 = _ := f9
      (try dsimp only at f9)
      replace f10 : xa 10 = _ := f10
      (try dsimp only at f10)
      replace f11 : xa 11 = _ := f11
      (try dsimp only at f11)
      change wpList _ _ _ _ (Act.put (Act.put (Act.put (Act.put (Act.put (Act.put (Act.put (Act.put (Act.put (Act.put (Act.put (Act.put _ (some 44) (xa 0)) (some 45) (xa 1)) (some 46) (xa 2)) (some 47) (xa 3)) (some 48) (xa 4)) (some 49) (xa 5)) (some 50) (xa 6)) (some 51) (xa 7)) (some 52) (xa 8)) (some 43) (xa 9)) (some 53) (xa 10)) (some 54) (xa 11)) _
      simp only [putsL, Nat.reduceAdd, List.drop_succ_cons, List.drop_zero, List.drop_nil, Act.put, sIA, sCS, sCZ]
      try simp only [f0, f1, f2, f3, f4, f5, f6, f7, f8, f9, f10, f11]
      clear f0 f1 f2 f3 f4 f5 f6 f7 f8 f9 f10 f11; clear holda hapa
      have hEf := (Ext.refl W1).drew.trans hera
      go_wp2
      go_ret
      exact ⟨ret_int hs.out, (hD1.more hEf).le (by have := htk.out; omega), (hE1.out.trans hEf).keeps⟩
    | none =>
      rw [hfN] at hlk
      have hlk2 : ∀ u, Ext W1 u → (Instr.lookup 137 (.map (some g)) (.agg #[.int .i64 a, .int .i64 b, .int .i64 c, .int .i64 d]) true).run Tryz.prog u = .ok (.tuple #[.int .i64 0, .bool false]) u := hlk.out
      replace hlk2 := Lib.hid hlk2; replace hfN := Lib.hid hfN; clear hlk hfs
      refine wp_region_facts [11] [([], false, false), ([0], false, false), ([0, 1], false, false), ([0, 1, 2], false, false), ([], false, false), ([0, 1, 2, 3, 4], false, false), ([0, 1, 2, 3, 4, 5], false, false), ([], false, false), ([0, 1, 2, 3, 4, 5, 6, 7], false, false), ([0, 1, 2, 3, 4, 5, 6, 7, 8], false, false), ([0, 1, 2, 3, 4, 5, 6, 7, 8, 9], false, false), ([0, 1, 2, 3, 4, 5, 6, 7, 8, 9], false, false)] (Ext) Ext (fun _ => True) (by kernel_rfl) (by kernel_rfl) Ext.refl (fun _ _ _ => Ext.trans) (fun _ _ h => h) (fun _ _ h => h.size) (fun _ _ h _ => h) trivial ?_
      dsimp only [List.length_cons, List.length_nil, List.drop_succ_cons, List.drop_zero, List.drop_nil]
      refine fac_quiet 0 rfl rfl rfl (fun _ _ h _ => h) rfl rfl ?_
      apply Exists.intro
      refine ⟨fun sv w' hw' hfa => ?_, ?_⟩
      · refine ⟨rfl, ?_⟩
        simp only [putsL]
        change quietTo _ _ _ _ (Sem.run _ (execOp (Act.eval _) _) _)
        try simp only [Act.put, sIA, sCS, sCZ]
        simp [go_sem, quietTo, Ext.refl]
        all_goals first
          | rfl
      refine fac_quiet 1 rfl rfl rfl (fun _ _ h _ => h) rfl rfl ?_
      apply Exists.intro
      refine ⟨fun sv w' hw' hfa => ?_, ?_⟩
      · obtain ⟨f0, -⟩ := hfa
        replace f0 : sv 0 = _ := f0; (try dsimp only at f0)
        refine ⟨rfl, ?_⟩
        simp only [putsL]
        change quietTo _ _ _ _ (Sem.run _ (execOp (Act.eval (Act.put _ (some 44) (sv 0))) _) _)
        try simp only [Act.put, sIA, sCS, sCZ]
        simp [go_sem, quietTo, Ext.refl, f0]
        all_goals first
          | rfl
      refine fac_quiet 2 rfl rfl rfl (fun _ _ h _ => h) rfl rfl ?_
      apply Exists.intro
      refine ⟨fun sv w' hw' hfa => ?_, ?_⟩
      · obtain ⟨_, f1, -⟩ := hfa
        replace f1 : sv 1 = _ := f1; (try dsimp only at f1)
        refine ⟨rfl, ?_⟩
        simp only [putsL]
        change quietTo _ _ _ _ (Sem.run _ (execOp (Act.eval (Act.put (Act.put _ (some 45) (sv 1)) (some 44) (sv 0))) _) _)
        try simp only [Act.put, sIA, sCS, sCZ]
        simp [go_sem, quietTo, Ext.refl, f1]
        all_goals first
          | rfl
      refine fac_quiet 3 rfl rfl rfl (fun _ _ h _ => h) rfl rfl ?_
      apply Exists.intro
      refine ⟨fun sv w' hw' hfa => ?_, ?_⟩
      · obtain ⟨_, _, f2, -⟩ := hfa
        replace f2 : sv 2 = _ := f2; (try dsimp only at f2)
        have hk9 := (Ext.refl W1).drew.trans hw'; obtain ⟨y1, -⟩ := (hD1.blk.ext hk9).walk; have y2 := (hk9.walk.1 _ _ hbb).trans hbc; obtain ⟨y3, -⟩ := (hB1.ext hk9).walk; have y4 := hlk2.out w' hk9
        refine ⟨rfl, ?_⟩
        simp only [putsL]
        change quietTo _ _ _ _ (Sem.run _ (execOp (Act.eval (Act.put (Act.put (Act.put _ (some 46) (sv 2)) (some 45) (sv 1)) (some 44) (sv 0))) _) _)
        try simp only [Act.put, sIA, sCS, sCZ]
        simp [go_sem, quietTo, Ext.refl, ↓IntWalk.iteOmega, f2, y1]
        all_goals try simp (disch := omega) only [IntWalk.i64_in]
        all_goals first
          | rfl
      refine fac_quiet 4 rfl rfl rfl (fun _ _ h _ => h) rfl rfl ?_
      apply Exists.intro
      refine ⟨fun sv w' hw' hfa => ?_, ?_⟩
      · refine ⟨rfl, ?_⟩
        simp only [putsL]
        change quietTo _ _ _ _ (Sem.run _ (execOp (Act.eval _) _) _)
        try simp only [Act.put, sIA, sCS, sCZ]
        simp [go_sem, quietTo, Ext.refl]
        all_goals first
          | rfl
      refine fac_quiet 5 rfl rfl rfl (fun _ _ h _ => h) rfl rfl ?_
      apply Exists.intro
      refine ⟨fun sv w' hw' hfa => ?_, ?_⟩
      · obtain ⟨_, _, _, f3, f4, -⟩ := hfa
        replace f3 : sv 3 = _ := f3; (try dsimp only at f3); replace f4 : sv 4 = _ := f4; (try dsimp only at f4)
        have hk9 := (Ext.refl W1).drew.trans hw'; obtain ⟨y1, -⟩ := (hD1.blk.ext hk9).walk; have y2 := (hk9.walk.1 _ _ hbb).trans hbc; obtain ⟨y3, -⟩ := (hB1.ext hk9).walk; have y4 := hlk2.out w' hk9
        refine ⟨rfl, ?_⟩
        simp only [putsL]
        change quietTo _ _ _ _ (Sem.run _ (execOp (Act.eval (Act.put (Act.put (Act.put (Act.put (Act.put _ (some 48) (sv 4)) (some 47) (sv 3)) (some 46) (sv 2)) (some 45) (sv 1)) (some 44) (sv 0))) _) _)
        try simp only [Act.put, sIA, sCS, sCZ]
        simp [go_sem, quietTo, Ext.refl, ↓IntWalk.iteOmega, f3, f4, hiI]
        all_goals try simp (disch := omega) only [IntWalk.i64_in]
        all_goals first
          | rfl
      refine fac_quiet 6 rfl rfl rfl (fun _ _ h _ => h) rfl rfl ?_
      apply Exists.intro
      refine ⟨fun sv w' hw' hfa => ?_, ?_⟩
      · obtain ⟨_, _, _, _, _, f5, -⟩ := hfa
        replace f5 : sv 5 = _ := f5; (try dsimp only at f5)
        have hk9 := (Ext.refl W1).drew.trans hw'; obtain ⟨y1, -⟩ := (hD1.blk.ext hk9).walk; have y2 := (hk9.walk.1 _ _ hbb).trans hbc; obtain ⟨y3, -⟩ := (hB1.ext hk9).walk; have y4 := hlk2.out w' hk9
        refine ⟨rfl, ?_⟩
        simp only [putsL]
        change quietTo _ _ _ _ (Sem.run _ (execOp (Act.eval (Act.put (Act.put (Act.put (Act.put (Act.put (Act.put _ (some 49) (sv 5)) (some 48) (sv 4)) (some 47) (sv 3)) (some 46) (sv 2)) (some 45) (sv 1)) (some 44) (sv 0))) _) _)
        try simp only [Act.put, sIA, sCS, sCZ]
        simp [go_sem, quietTo, Ext.refl, ↓IntWalk.iteOmega, f5, y2]
        all_goals try simp (disch := omega) only [IntWalk.i64_in]
        all_goals first
          | rfl
      refine fac_quiet 7 rfl rfl rfl (fun _ _ h _ => h) rfl rfl ?_
      apply Exists.intro
      refine ⟨fun sv w' hw' hfa => ?_, ?_⟩
      · have hk9 := (Ext.refl W1).drew.trans hw'; obtain ⟨y1, -⟩ := (hD1.blk.ext hk9).walk; have y2 := (hk9.walk.1 _ _ hbb).trans hbc; obtain ⟨y3, -⟩ := (hB1.ext hk9).walk; have y4 := hlk2.out w' hk9
        refine ⟨rfl, ?_⟩
        simp only [putsL]
        change quietTo _ _ _ _ (Sem.run _ (execOp (Act.eval _) _) _)
        try simp only [Act.put, sIA, sCS, sCZ]
        simp [go_sem, quietTo, Ext.refl, ↓IntWalk.iteOmega, y3]
        all_goals try simp (disch := omega) only [IntWalk.i64_in]
        all_goals first
          | rfl
      refine fac_quiet 8 rfl rfl rfl (fun _ _ h _ => h) rfl rfl ?_
      apply Exists.intro
      refine ⟨fun sv w' hw' hfa => ?_, ?_⟩
      · obtain ⟨_, _, _, _, _, _, f6, f7, -⟩ := hfa
        replace f6 : sv 6 = _ := f6; (try dsimp only at f6); replace f7 : sv 7 = _ := f7; (try dsimp only at f7)
        have hk9 := (Ext.refl W1).drew.trans hw'; obtain ⟨y1, -⟩ := (hD1.blk.ext hk9).walk; have y2 := (hk9.walk.1 _ _ hbb).trans hbc; obtain ⟨y3, -⟩ := (hB1.ext hk9).walk; have y4 := hlk2.out w' hk9
        refine ⟨rfl, ?_⟩
        simp only [putsL]
        change quietTo _ _ _ _ (Sem.run _ (execOp (Act.eval (Act.put (Act.put (Act.put (Act.put (Act.put (Act.put (Act.put (Act.put _ (some 51) (sv 7)) (some 50) (sv 6)) (some 49) (sv 5)) (some 48) (sv 4)) (some 47) (sv 3)) (some 46) (sv 2)) (some 45) (sv 1)) (some 44) (sv 0))) _) _)
        try simp only [Act.put, sIA, sCS, sCZ]
        simp [go_sem, quietTo, Ext.refl, ↓IntWalk.iteOmega, f6, f7, y4]
        all_goals try simp (disch := omega) only [IntWalk.i64_in]
        all_goals first
          | rfl
      refine fac_quiet 9 rfl rfl rfl (fun _ _ h _ => h) rfl rfl ?_
      apply Exists.intro
      refine ⟨fun sv w' hw' hfa => ?_, ?_⟩
      · obtain ⟨_, _, _, _, _, _, _, _, f8, -⟩ := hfa
        replace f8 : sv 8 = _ := f8; (try dsimp only at f8)
        refine ⟨rfl, ?_⟩
        simp only [putsL]
        change quietTo _ _ _ _ (Sem.run _ (execOp (Act.eval (Act.put (Act.put (Act.put (Act.put (Act.put (Act.put (Act.put (Act.put (Act.put _ (some 52) (sv 8)) (some 51) (sv 7)) (some 50) (sv 6)) (some 49) (sv 5)) (some 48) (sv 4)) (some 47) (sv 3)) (some 46) (sv 2)) (some 45) (sv 1)) (some 44) (sv 0))) _) _)
        try simp only [Act.put, sIA, sCS, sCZ]
        simp [go_sem, quietTo, Ext.refl, f8]
        all_goals first
          | rfl
      refine fac_quiet 10 rfl rfl rfl (fun _ _ h _ => h) rfl rfl ?_
      apply Exists.intro
      refine ⟨fun sv w' hw' hfa => ?_, ?_⟩
      · obtain ⟨_, _, _, _, _, _, _, _, _, f9, -⟩ := hfa
        replace f9 : sv 9 = _ := f9; (try dsimp only at f9)
        refine ⟨rfl, ?_⟩
        simp only [putsL]
        change quietTo _ _ _ _ (Sem.run _ (execOp (Act.eval (Act.put (Act.put (Act.put (Act.put (Act.put (Act.put (Act.put (Act.put (Act.put (Act.put _ (some 43) (sv 9)) (some 52) (sv 8)) (some 51) (sv 7)) (some 50) (sv 6)) (some 49) (sv 5)) (some 48) (sv 4)) (some 47) (sv 3)) (some 46) (sv 2)) (some 45) (sv 1)) (some 44) (sv 0))) _) _)
        try simp only [Act.put, sIA, sCS, sCZ]
        simp [go_sem, quietTo, Ext.refl, f9]
        all_goals first
          | rfl
      refine fac_late 11 rfl rfl Ext.refl (fun _ _ h _ => h) rfl rfl (fun _ _ _ _ h => h) ?_
      apply Exists.intro
      refine ⟨fun sv w' hw' hfa => ?_, ?_⟩
      · obtain ⟨_, _, _, _, _, _, _, _, _, f9, -⟩ := hfa
        replace f9 : sv 9 = _ := f9; (try dsimp only at f9)
        refine ⟨rfl, fun w2 => ?_⟩
        simp only [putsL]
        change pureTo _ _ (Sem.run _ (execOp (Act.eval (Act.put (Act.put (Act.put (Act.put (Act.put (Act.put (Act.put (Act.put (Act.put (Act.put _ (some 43) (sv 9)) (some 52) (sv 8)) (some 51) (sv 7)) (some 50) (sv 6)) (some 49) (sv 5)) (some 48) (sv 4)) (some 47) (sv 3)) (some 46) (sv 2)) (some 45) (sv 1)) (some 44) (sv 0))) _) _)
        try simp only [Act.put, sIA, sCS, sCZ]
        simp [go_sem, pureTo, f9]
        all_goals try simp (disch := omega) only [IntWalk.i64_in]
        all_goals first
          | rfl
      refine fac_nil fun xa wra hera hfra hcra holda hapa => ?_
      obtain ⟨f0, f1, f2, f3, f4, f5, f6, f7, f8, f9, f10, f11, -⟩ := hfra
      replace f0 : xa 0 = _ := f0
      (try dsimp only at f0)
      replace f1 : xa 1 = _ := f1
      (try dsimp only at f1)
      replace f2 : xa 2 = _ := f2
      (try dsimp only at f2)
      replace f3 : xa 3 = _ := f3
      (try dsimp only at f3)
      replace f4 : xa 4 = _ := f4
      (try dsimp only at f4)
      replace f5 : xa 5 = _ := f5
      (try dsimp only at f5)
      replace f6 : xa 6 = _ := f6
      (try dsimp only at f6)
      replace f7 : xa 7 = _ := f7
      (try dsimp only at f7)
      replace f8 : xa 8 = _ := f8
      (try dsimp only at f8)
      replace f9 : xa 9 = _ := f9
      (try dsimp only at f9)
      replace f10 : xa 10 = _ := f10
      (try dsimp only at f10)
      replace f11 : xa 11 = _ := f11
      (try dsimp only at f11)
      change wpList _ _ _ _ (Act.put (Act.put (Act.put (Act.put (Act.put (Act.put (Act.put (Act.put (Act.put (Act.put (Act.put (Act.put _ (some 44) (xa 0)) (some 45) (xa 1)) (some 46) (xa 2)) (some 47) (xa 3)) (some 48) (xa 4)) (some 49) (xa 5)) (some 50) (xa 6)) (some 51) (xa 7)) (some 52) (xa 8)) (some 43) (xa 9)) (some 53) (xa 10)) (some 54) (xa 11)) _
      simp only [putsL, Nat.reduceAdd, List.drop_succ_cons, List.drop_zero, List.drop_nil, Act.put, sIA, sCS, sCZ]
      try simp only [f0, f1, f2, f3, f4, f5, f6, f7, f8, f9, f10, f11]
      clear f0 f1 f2 f3 f4 f5 f6 f7 f8 f9 f10 f11; clear holda hapa
      have hE3 := (Ext.refl W1).drew.trans hera
      have hD3 := hD1.more hE3
      have hCw3 := hCw.out.ext hE3
      have hB3 := hB1.ext hE3
      have hK3 : Keeps gs _ _ := (hE1.out.trans hE3).keeps
      obtain ⟨z1, -⟩ := hD3.blk.walk
      obtain ⟨z2, -⟩ := hCw3.blk.walk
      replace hD3 := Lib.hid hD3; replace hB3 := Lib.hid hB3; clear hD1 hB1 hCw3 hbc hbb hE3
      obtain ⟨G, hG⟩ : ∃ G, withV P (fromF P (C.drop (i + 1))) (C.getD i []) [a, b, c, d] = G := ⟨_, rfl⟩
      have hGv := fun p => congrFun hG p
      rw [hG] at hfr
      replace hGv := Lib.hid hGv; replace hG := Lib.hid hG
      go_wp2
      go_loopw [65, 11] (fun v65 v11 wr => ∃ p : Nat, v65 = .int .i64 p ∧ p ≤ P.length ∧ v11 = .int .i64 (maxT G p) ∧ DivM w0 wr cb db (some ⟨bb, boff, none⟩) bc gs P C (n + p * tF k) ∧ Keeps gs wra wr) (fun v65 _ _ => P.length - (intOf v65).toNat)
      case atStart => exact ⟨0, rfl, Nat.zero_le _, rfl, hD3.out.le (by omega), Keeps.refl gs _⟩
      case round =>
        clear z1 z2 hera
        obtain ⟨p, rfl, hp, rfl, hDp, hKp⟩ := hrel
        have hBp := hKp.2.1 _ _ _ hB3.out
        by_cases hlt : p < P.length
        · have hpm : p * tF k + tF k ≤ P.length * tF k := by rw [← Nat.succ_mul]; exact Nat.mul_le_mul_right _ hlt
          have hcall := hw2.out (n + p * tF k) p wr hlt (by have := htk.out; omega) hDp
          rw [hGv.out p] at hcall
          have hnx : maxT G (p + 1) = max (maxT G p) (G p) := rfl
          have hmul : n + (p + 1) * tF k = n + p * tF k + tF k := by rw [Nat.succ_mul]; omega
          obtain ⟨y1, -⟩ := hBp.walk
          have hBl := hBp.lt
          have hpI : (p : Int) < P.length := by omega
          generalize maxT G p = m at *
          generalize G p = x at *
          replace hcall := Lib.hid hcall; replace hnx := Lib.hid hnx; replace hmul := Lib.hid hmul; clear hDp hBp hpm htf
          by_cases hmx : m < x
          · have hm2 : max m x = x := by omega
            replace hm2 := Lib.hid hm2
            go_wp2_with (go_at_call 30; (with_reducible refine Calls.mono hcall.out ?_); rintro e w8 ⟨rfl, hD8, hK8⟩)
            go_roundw
            case rel => exact ⟨p + 1, by go_num, by omega, by rw [hnx.out, hm2.out], by rw [hmul.out]; exact hD8, hKp.trans hK8⟩
            case measure => simp [intOf]; omega
          · have hm2 : max m x = m := by omega
            replace hm2 := Lib.hid hm2
            go_wp2_with (go_at_call 30; (with_reducible refine Calls.mono hcall.out ?_); rintro e w8 ⟨rfl, hD8, hK8⟩)
            go_roundw
            case rel => exact ⟨p + 1, by go_num, by omega, by rw [hnx.out, hm2.out], by rw [hmul.out]; exact hD8, hKp.trans hK8⟩
            case measure => simp [intOf]; omega
        · obtain rfl : p = P.length := by omega
          have hBl := hBp.lt
          obtain ⟨bb', boff', e9, hbb, hbc⟩ := hDp.at_ hg.out
          cases e9
          obtain ⟨v, hv⟩ : ∃ v, maxT G P.length = v := ⟨_, rfl⟩
          have hfv := hfr.out
          rw [hv] at hfv ⊢
          replace hfv := Lib.hid hfv; replace hv := Lib.hid hv
          go_upto_region 18 with fail
          refine wp_region_facts [] [([], false, false), ([0], false, false), ([0, 1], false, false), ([0, 1, 2], false, false), ([], false, false), ([0, 1, 2, 3, 4], false, false), ([0, 1, 2, 3, 4, 5], false, false), ([], false, false), ([], false, false)] (Ext) Ext (fun _ => True) (by kernel_rfl) (by kernel_rfl) Ext.refl (fun _ _ _ => Ext.trans) (fun _ _ h => h) (fun _ _ h => h.size) (fun _ _ h _ => h) trivial ?_
          dsimp only [List.length_cons, List.length_nil, List.drop_succ_cons, List.drop_zero, List.drop_nil]
          refine fac_quiet 0 rfl rfl rfl (fun _ _ h _ => h) rfl rfl ?_
          apply Exists.intro
          refine ⟨fun sv w' hw' hfa => ?_, ?_⟩
          · refine ⟨rfl, ?_⟩
            simp only [putsL]
            change quietTo _ _ _ _ (Sem.run _ (execOp (Act.eval _) _) _)
            try simp only [Act.put, sIA, sCS, sCZ]
            simp [go_sem, quietTo, Ext.refl]
            all_goals first
              | rfl
          refine fac_quiet 1 rfl rfl rfl (fun _ _ h _ => h) rfl rfl ?_
          apply Exists.intro
          refine ⟨fun sv w' hw' hfa => ?_, ?_⟩
          · obtain ⟨f0, -⟩ := hfa
            replace f0 : sv 0 = _ := f0; (try dsimp only at f0)
            refine ⟨rfl, ?_⟩
            simp only [putsL]
            change quietTo _ _ _ _ (Sem.run _ (execOp (Act.eval (Act.put _ (some 76) (sv 0))) _) _)
            try simp only [Act.put, sIA, sCS, sCZ]
            simp [go_sem, quietTo, Ext.refl, f0]
            all_goals first
              | rfl
          refine fac_quiet 2 rfl rfl rfl (fun _ _ h _ => h) rfl rfl ?_
          apply Exists.intro
          refine ⟨fun sv w' hw' hfa => ?_, ?_⟩
          · obtain ⟨_, f1, -⟩ := hfa
            replace f1 : sv 1 = _ := f1; (try dsimp only at f1)
            refine ⟨rfl, ?_⟩
            simp only [putsL]
            change quietTo _ _ _ _ (Sem.run _ (execOp (Act.eval (Act.put (Act.put _ (some 77) (sv 1)) (some 76) (sv 0))) _) _)
            try simp only [Act.put, sIA, sCS, sCZ]
            simp [go_sem, quietTo, Ext.refl, f1]
            all_goals first
              | rfl
          refine fac_quiet 3 rfl rfl rfl (fun _ _ h _ => h) rfl rfl ?_
          apply Exists.intro
          refine ⟨fun sv w' hw' hfa => ?_, ?_⟩
          · obtain ⟨_, _, f2, -⟩ := hfa
            replace f2 : sv 2 = _ := f2; (try dsimp only at f2)
            have hk9 := (Ext.refl wr).drew.trans hw'; obtain ⟨y1, -⟩ := (hDp.blk.ext hk9).walk; have y2 := (hk9.walk.1 _ _ hbb).trans hbc; obtain ⟨y3, -⟩ := (hBp.ext hk9).walk
            refine ⟨rfl, ?_⟩
            simp only [putsL]
            change quietTo _ _ _ _ (Sem.run _ (execOp (Act.eval (Act.put (Act.put (Act.put _ (some 78) (sv 2)) (some 77) (sv 1)) (some 76) (sv 0))) _) _)
            try simp only [Act.put, sIA, sCS, sCZ]
            simp [go_sem, quietTo, Ext.refl, ↓IntWalk.iteOmega, f2, y1]
            all_goals try simp (disch := omega) only [IntWalk.i64_in]
            all_goals first
              | rfl
          refine fac_quiet 4 rfl rfl rfl (fun _ _ h _ => h) rfl rfl ?_
          apply Exists.intro
          refine ⟨fun sv w' hw' hfa => ?_, ?_⟩
          · refine ⟨rfl, ?_⟩
            simp only [putsL]
            change quietTo _ _ _ _ (Sem.run _ (execOp (Act.eval _) _) _)
            try simp only [Act.put, sIA, sCS, sCZ]
            simp [go_sem, quietTo, Ext.refl]
            all_goals first
              | rfl
          refine fac_quiet 5 rfl rfl rfl (fun _ _ h _ => h) rfl rfl ?_
          apply Exists.intro
          refine ⟨fun sv w' hw' hfa => ?_, ?_⟩
          · obtain ⟨_, _, _, f3, f4, -⟩ := hfa
            replace f3 : sv 3 = _ := f3; (try dsimp only at f3); replace f4 : sv 4 = _ := f4; (try dsimp only at f4)
            have hk9 := (Ext.refl wr).drew.trans hw'; obtain ⟨y1, -⟩ := (hDp.blk.ext hk9).walk; have y2 := (hk9.walk.1 _ _ hbb).trans hbc; obtain ⟨y3, -⟩ := (hBp.ext hk9).walk
            refine ⟨rfl, ?_⟩
            simp only [putsL]
            change quietTo _ _ _ _ (Sem.run _ (execOp (Act.eval (Act.put (Act.put (Act.put (Act.put (Act.put _ (some 80) (sv 4)) (some 79) (sv 3)) (some 78) (sv 2)) (some 77) (sv 1)) (some 76) (sv 0))) _) _)
            try simp only [Act.put, sIA, sCS, sCZ]
            simp [go_sem, quietTo, Ext.refl, ↓IntWalk.iteOmega, f3, f4, hiI]
            all_goals try simp (disch := omega) only [IntWalk.i64_in]
            all_goals first
              | rfl
          refine fac_quiet 6 rfl rfl rfl (fun _ _ h _ => h) rfl rfl ?_
          apply Exists.intro
          refine ⟨fun sv w' hw' hfa => ?_, ?_⟩
          · obtain ⟨_, _, _, _, _, f5, -⟩ := hfa
            replace f5 : sv 5 = _ := f5; (try dsimp only at f5)
            have hk9 := (Ext.refl wr).drew.trans hw'; obtain ⟨y1, -⟩ := (hDp.blk.ext hk9).walk; have y2 := (hk9.walk.1 _ _ hbb).trans hbc; obtain ⟨y3, -⟩ := (hBp.ext hk9).walk
            refine ⟨rfl, ?_⟩
            simp only [putsL]
            change quietTo _ _ _ _ (Sem.run _ (execOp (Act.eval (Act.put (Act.put (Act.put (Act.put (Act.put (Act.put _ (some 81) (sv 5)) (some 80) (sv 4)) (some 79) (sv 3)) (some 78) (sv 2)) (some 77) (sv 1)) (some 76) (sv 0))) _) _)
            try simp only [Act.put, sIA, sCS, sCZ]
            simp [go_sem, quietTo, Ext.refl, ↓IntWalk.iteOmega, f5, y2]
            all_goals try simp (disch := omega) only [IntWalk.i64_in]
            all_goals first
              | rfl
          refine fac_quiet 7 rfl rfl rfl (fun _ _ h _ => h) rfl rfl ?_
          apply Exists.intro
          refine ⟨fun sv w' hw' hfa => ?_, ?_⟩
          · have hk9 := (Ext.refl wr).drew.trans hw'; obtain ⟨y1, -⟩ := (hDp.blk.ext hk9).walk; have y2 := (hk9.walk.1 _ _ hbb).trans hbc; obtain ⟨y3, -⟩ := (hBp.ext hk9).walk
            refine ⟨rfl, ?_⟩
            simp only [putsL]
            change quietTo _ _ _ _ (Sem.run _ (execOp (Act.eval _) _) _)
            try simp only [Act.put, sIA, sCS, sCZ]
            simp [go_sem, quietTo, Ext.refl, ↓IntWalk.iteOmega, y3]
            all_goals try simp (disch := omega) only [IntWalk.i64_in]
            all_goals first
              | rfl
          refine fac_quiet 8 rfl rfl rfl (fun _ _ h _ => h) rfl rfl ?_
          apply Exists.intro
          refine ⟨fun sv w' hw' hfa => ?_, ?_⟩
          · refine ⟨rfl, ?_⟩
            simp only [putsL]
            change quietTo _ _ _ _ (Sem.run _ (execOp (Act.eval _) _) _)
            try simp only [Act.put, sIA, sCS, sCZ]
            simp [go_sem, quietTo, Ext.refl]
            all_goals first
              | rfl
          refine fac_nil fun xq wrq herq hfrq hcrq holdq hapq => ?_
          obtain ⟨f0, f1, f2, f3, f4, f5, f6, f7, f8, -⟩ := hfrq
          replace f0 : xq 0 = _ := f0
          (try dsimp only at f0)
          replace f1 : xq 1 = _ := f1
          (try dsimp only at f1)
          replace f2 : xq 2 = _ := f2
          (try dsimp only at f2)
          replace f3 : xq 3 = _ := f3
          (try dsimp only at f3)
          replace f4 : xq 4 = _ := f4
          (try dsimp only at f4)
          replace f5 : xq 5 = _ := f5
          (try dsimp only at f5)
          replace f6 : xq 6 = _ := f6
          (try dsimp only at f6)
          replace f7 : xq 7 = _ := f7
          (try dsimp only at f7)
          replace f8 : xq 8 = _ := f8
          (try dsimp only at f8)
          change wpList _ _ _ _ (Act.put (Act.put (Act.put (Act.put (Act.put (Act.put (Act.put (Act.put (Act.put _ (some 76) (xq 0)) (some 77) (xq 1)) (some 78) (xq 2)) (some 79) (xq 3)) (some 80) (xq 4)) (some 81) (xq 5)) (some 82) (xq 6)) (some 83) (xq 7)) (some 84) (xq 8)) _
          simp only [putsL, Nat.reduceAdd, List.drop_succ_cons, List.drop_zero, List.drop_nil, Act.put, sIA, sCS, sCZ]
          try simp only [f0, f1, f2, f3, f4, f5, f6, f7, f8]
          clear f0 f1 f2 f3 f4 f5 f6 f7 f8; clear holdq hapq
          have hE5 := (Ext.refl wr).drew.trans herq
          obtain ⟨w6, hrun, hD6, hK6⟩ := (hDp.more hE5).put hg.out hman.out (by have := hfin.out _ (Nat.le_refl _); omega) hfv.out.symm
          have hKf := ((hK3.trans hKp).trans hE5.keeps).trans hK6
          refine wpList_putV rfl _ _ _ 137 rfl (.map (some g)) (.agg #[.int .i64 a, .int .i64 b, .int .i64 c, .int .i64 d]) (.int .i64 v) rfl rfl rfl w6 hrun ?_
          clear hDp hBp hbb hbc hrun hE5
          go_wp2
          go_ret
          exact ⟨ret_int hfv.out.symm, hD6.le (hfin.out _ (Nat.le_refl _)), hKf⟩
end Go.Proofs.YtdehmioobkneiaaGreatDoor
