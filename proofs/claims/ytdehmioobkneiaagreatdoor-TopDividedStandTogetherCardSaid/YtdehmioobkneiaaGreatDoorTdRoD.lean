/- People in rows by their height, by both texts: the walks. Conditions: people and the stage are right. -/
import Derived.Test.YtdehmioobkneiaaGreatDoorTdJ39
import Derived.Test.YtdehmioobkneiaaGreatDoorTdJ35
import Derived.Test.YtdehmioobkneiaaGreatDoorTdJ38
set_option linter.unusedSimpArgs false
set_option linter.unusedVariables false
namespace Go.Proofs.YtdehmioobkneiaaGreatDoor
open Go Go.RowKit
set_option maxRecDepth 100000 in
set_option maxHeartbeats 3200000 in
theorem inRow_any {r : Nat} {wp : Option Addr} {wcap : Nat} {wide : List Int} {hp : Option Addr} {hl hc : Nat} {q : Option Addr} {d : Nat} {Q : List PersonV} {w : World} (hW : Slc 1 intC w wp wide.length wcap wide) (hr : r < wide.length) (hwo : WideOk wide) (hQ : Slc 3 perC w q Q.length d Q) (hle : Q.length ≤ (wide.getD r 0).toNat) :
    Calls Tryz.prog 39 #[.agg #[.slice wp wide.length wcap, .slice hp hl hc], .int .i64 r, .slice q Q.length d] w fun e w' => ∃ (p : Option Addr) (c : Nat), e = .returned (.slice p Q.length c) ∧ Slc 3 staC w' p Q.length c (rowP wide r Q) ∧ Ext w w' := by
  have hE0 : Ext w (w.alloc (.cells #[.slice wp wide.length wcap, .slice hp hl hc] 48)) := (Ext.refl _).alloc _
  have hB0 : Blk (w.alloc (.cells #[.slice wp wide.length wcap, .slice hp hl hc] 48)) w.heap.size 48 #[.slice wp wide.length wcap, .slice hp hl hc] := Blk.new' rfl
  obtain ⟨wd, hwd⟩ := getD_some (rfl : wide.length = wide.length) hr
  obtain ⟨v1, v2⟩ := hwo.2 wd (List.mem_of_getElem? hwd)
  have e9 : wide.getD r 0 = wd := by rw [List.getD_eq_getElem?_getD, hwd]; rfl
  have hrp := fun (i : Nat) (x : PersonV) (h : Q[i]? = some x) => rowP_at (wide := wide) (r := r) h
  have hrl := rowP_len wide r Q
  simp only [e9] at hrp hle
  generalize rowP wide r Q = RP at *
  have hrI : (r : Int) < wide.length := by omega
  have hw10 := hwo.1
  rcases (slcC hW).2 with ⟨-, e⟩ | ⟨wb, wo, rfl, hwb, hWl⟩
  · rw [e] at hwd; cases hwd
  have hq30 : Q.length ≤ 30 := by omega
  replace hrp := Lib.hid hrp; replace hrl := Lib.hid hrl; replace hwo := Lib.hid hwo; replace e9 := Lib.hid e9; replace hwd := Lib.hid hwd
  go_enter Tryz.func39, Tryz.ntmps39
  go_wp2
  go_loopw [7, 12] (fun v7 v12 wr => ∃ k : Nat, v12 = .int .i64 k ∧ k ≤ Q.length ∧ wr.ownsRow (w.heap.size + 1) 54 3 v7 k ((RP.take k).flatMap staC) ∧ Ext w wr ∧ Blk wr w.heap.size 48 #[.slice (some ⟨wb, wo, none⟩) wide.length wcap, .slice hp hl hc]) (fun _ v12 _ => Q.length - (intOf v12).toNat)
  case atStart => exact ⟨0, rfl, Nat.zero_le _, by simpa using World.ownsRow_nil _ _ _ _, hE0, hB0⟩
  case round =>
    obtain ⟨k, rfl, hk, hown, hE, hB⟩ := hrel
    by_cases hlt : k < Q.length
    · obtain ⟨x, hx⟩ := getD_some (rfl : Q.length = Q.length) hlt
      have hkI : (k : Int) < Q.length := by omega
      rcases (slcC hQ).2 with ⟨-, e⟩ | ⟨b, off, rfl, hb, hEl⟩
      · rw [e] at hx; cases hx
      obtain ⟨c0, c1, c2⟩ := (hEl.ext hE hb).per hx
      have lb := Nat.lt_of_lt_of_le hb hE.size
      have hst := take_snocL (hrp.out k x hx)
      have hWr := hWl.ext hE hwb
      have lwb := Nat.lt_of_lt_of_le hwb hE.size
      replace hst := Lib.hid hst; replace hown := Lib.hid hown
      have hY0 : Blk (wr.alloc (.cells #[.string x.name, .int .i64 x.high, .string x.sect] 42)) wr.heap.size 42 #[.string x.name, .int .i64 x.high, .string x.sect] := Blk.new' rfl
      have hE1 : Ext wr (wr.alloc (.cells #[.string x.name, .int .i64 x.high, .string x.sect] 42)) := (Ext.refl _).alloc _
      clear hx hEl
      go_upto_region 5 with fail
      have hown1 := own_ext hE1 hown.out
      have hB1 := hB.ext hE1
      have hW1 := hWr.ext hE1 lwb
      have hEw := hE.trans hE1
      have lw1 := Nat.lt_of_lt_of_le lwb hE1.size
      clear hown hB hWr hE lwb c0 c1 c2 hE1
      generalize wr.alloc (.cells #[.string x.name, .int .i64 x.high, .string x.sect] 42) = W at *
      have c8 := hW1.int hwd.out
      have htd : (wd - (Q.length : Int)).tdiv 2 = (wd - (Q.length : Int)) / 2 := Int.tdiv_eq_ediv_of_nonneg (by omega)
      have hwrp : IntKind.i64.wrap (wd - (Q.length : Int)) = wd - (Q.length : Int) := IntWalk.i64_in _ (by omega)
      have hw2 : IntKind.i64.wrap ((wd - (Q.length : Int)) / 2 + (k : Int)) = (wd - (Q.length : Int)) / 2 + (k : Int) := IntWalk.i64_in _ (by omega)
      have hw3 : IntKind.i64.wrap ((wd - (Q.length : Int)) / 2) = (wd - (Q.length : Int)) / 2 := IntWalk.i64_in _ (by omega)
      replace htd := Lib.hid htd; replace hwrp := Lib.hid hwrp; replace hw2 := Lib.hid hw2; replace hw3 := Lib.hid hw3; replace hown1 := Lib.hid hown1
      refine wp_region_facts [] [([], false, false), ([], false, false), ([1], false, false), ([], false, false), ([], false, false), ([4], false, false), ([], false, false), ([4, 5, 6], false, false), ([4, 5, 6, 7], false, false), ([], false, false), ([9], false, false), ([4, 5, 6, 7, 8, 9, 10], false, false), ([4, 5, 6, 7, 8, 9, 10, 11], false, false), ([], false, false), ([4, 5, 6, 7, 8, 9, 10, 11, 12, 13], false, false), ([1, 2, 3, 4, 5, 6, 7, 8, 9, 10, 11, 12, 13, 14], false, false), ([1, 2, 3, 4, 5, 6, 7, 8, 9, 10, 11, 12, 13, 14, 15], false, true)] (Ext) Ext (fun _ => True) (by kernel_rfl) (by kernel_rfl) Ext.refl (fun _ _ _ => Ext.trans) (fun _ _ h => h) (fun _ _ h => h.size) (fun _ _ h _ => h) trivial ?_
      dsimp only [List.length_cons, List.length_nil, List.drop_succ_cons, List.drop_zero, List.drop_nil]
      refine fac_quiet 0 rfl rfl rfl (fun _ _ h _ => h) rfl rfl ?_
      apply Exists.intro
      refine ⟨fun sv w' hw' hfa => ?_, ?_⟩
      · refine ⟨rfl, ?_⟩
        simp only [putsL]
        change quietTo _ _ _ _ (Sem.run _ (execOp (Act.eval _) _) _)
        try simp only [Act.put, sIA, sCS, sCZ]
        simp [go_sem, quietTo, Ext.refl]
        all_goals first
          | rfl
      refine fac_quiet 1 rfl rfl rfl (fun _ _ h _ => h) rfl rfl ?_
      apply Exists.intro
      refine ⟨fun sv w' hw' hfa => ?_, ?_⟩
      · refine ⟨rfl, ?_⟩
        simp only [putsL]
        change quietTo _ _ _ _ (Sem.run _ (execOp (Act.eval _) _) _)
        try simp only [Act.put, sIA, sCS, sCZ]
        simp [go_sem, quietTo, Ext.refl]
        all_goals first
          | rfl
      refine fac_quiet 2 rfl rfl rfl (fun _ _ h _ => h) rfl rfl ?_
      apply Exists.intro
      refine ⟨fun sv w' hw' hfa => ?_, ?_⟩
      · obtain ⟨f1, -⟩ := hfa
        replace f1 : sv 1 = _ := f1; (try dsimp only at f1)
        have hk9 := (Ext.refl W).drew.trans hw'; obtain ⟨y1, -⟩ := (hB1.ext hk9).walk; obtain ⟨y2, -⟩ := (hY0.ext hk9).walk; have y8 := (hk9.walk.1 _ _ lw1).trans c8
        refine ⟨rfl, ?_⟩
        simp only [putsL]
        change quietTo _ _ _ _ (Sem.run _ (execOp (Act.eval (Act.put _ (some 18) (sv 1))) _) _)
        try simp only [Act.put, sIA, sCS, sCZ]
        simp [go_sem, quietTo, Ext.refl, ↓IntWalk.iteOmega, f1, y2]
        all_goals try simp (disch := omega) only [IntWalk.i64_in]
        all_goals first
          | rfl
      refine fac_quiet 3 rfl rfl rfl (fun _ _ h _ => h) rfl rfl ?_
      apply Exists.intro
      refine ⟨fun sv w' hw' hfa => ?_, ?_⟩
      · refine ⟨rfl, ?_⟩
        simp only [putsL]
        change quietTo _ _ _ _ (Sem.run _ (execOp (Act.eval _) _) _)
        try simp only [Act.put, sIA, sCS, sCZ]
        simp [go_sem, quietTo, Ext.refl]
        all_goals first
          | rfl
      refine fac_quiet 4 rfl rfl rfl (fun _ _ h _ => h) rfl rfl ?_
      apply Exists.intro
      refine ⟨fun sv w' hw' hfa => ?_, ?_⟩
      · refine ⟨rfl, ?_⟩
        simp only [putsL]
        change quietTo _ _ _ _ (Sem.run _ (execOp (Act.eval _) _) _)
        try simp only [Act.put, sIA, sCS, sCZ]
        simp [go_sem, quietTo, Ext.refl]
        all_goals first
          | rfl
      refine fac_quiet 5 rfl rfl rfl (fun _ _ h _ => h) rfl rfl ?_
      apply Exists.intro
      refine ⟨fun sv w' hw' hfa => ?_, ?_⟩
      · obtain ⟨f4, -⟩ := hfa
        replace f4 : sv 4 = _ := f4; (try dsimp only at f4)
        have hk9 := (Ext.refl W).drew.trans hw'; obtain ⟨y1, -⟩ := (hB1.ext hk9).walk; obtain ⟨y2, -⟩ := (hY0.ext hk9).walk; have y8 := (hk9.walk.1 _ _ lw1).trans c8
        refine ⟨rfl, ?_⟩
        simp only [putsL]
        change quietTo _ _ _ _ (Sem.run _ (execOp (Act.eval (Act.put _ (some 21) (sv 4))) _) _)
        try simp only [Act.put, sIA, sCS, sCZ]
        simp [go_sem, quietTo, Ext.refl, ↓IntWalk.iteOmega, f4, y1]
        all_goals try simp (disch := omega) only [IntWalk.i64_in]
        all_goals first
          | rfl
      refine fac_quiet 6 rfl rfl rfl (fun _ _ h _ => h) rfl rfl ?_
      apply Exists.intro
      refine ⟨fun sv w' hw' hfa => ?_, ?_⟩
      · refine ⟨rfl, ?_⟩
        simp only [putsL]
        change quietTo _ _ _ _ (Sem.run _ (execOp (Act.eval _) _) _)
        try simp only [Act.put, sIA, sCS, sCZ]
        simp [go_sem, quietTo, Ext.refl]
        all_goals first
          | rfl
      refine fac_quiet 7 rfl rfl rfl (fun _ _ h _ => h) rfl rfl ?_
      apply Exists.intro
      refine ⟨fun sv w' hw' hfa => ?_, ?_⟩
      · obtain ⟨_, f5, f6, -⟩ := hfa
        replace f5 : sv 5 = _ := f5; (try dsimp only at f5); replace f6 : sv 6 = _ := f6; (try dsimp only at f6)
        have hk9 := (Ext.refl W).drew.trans hw'; obtain ⟨y1, -⟩ := (hB1.ext hk9).walk; obtain ⟨y2, -⟩ := (hY0.ext hk9).walk; have y8 := (hk9.walk.1 _ _ lw1).trans c8
        refine ⟨rfl, ?_⟩
        simp only [putsL]
        change quietTo _ _ _ _ (Sem.run _ (execOp (Act.eval (Act.put (Act.put (Act.put _ (some 23) (sv 6)) (some 22) (sv 5)) (some 21) (sv 4))) _) _)
        try simp only [Act.put, sIA, sCS, sCZ]
        simp [go_sem, quietTo, Ext.refl, ↓IntWalk.iteOmega, f5, f6, hrI]
        all_goals try simp (disch := omega) only [IntWalk.i64_in]
        all_goals first
          | rfl
      refine fac_quiet 8 rfl rfl rfl (fun _ _ h _ => h) rfl rfl ?_
      apply Exists.intro
      refine ⟨fun sv w' hw' hfa => ?_, ?_⟩
      · obtain ⟨_, _, _, f7, -⟩ := hfa
        replace f7 : sv 7 = _ := f7; (try dsimp only at f7)
        have hk9 := (Ext.refl W).drew.trans hw'; obtain ⟨y1, -⟩ := (hB1.ext hk9).walk; obtain ⟨y2, -⟩ := (hY0.ext hk9).walk; have y8 := (hk9.walk.1 _ _ lw1).trans c8
        refine ⟨rfl, ?_⟩
        simp only [putsL]
        change quietTo _ _ _ _ (Sem.run _ (execOp (Act.eval (Act.put (Act.put (Act.put (Act.put _ (some 24) (sv 7)) (some 23) (sv 6)) (some 22) (sv 5)) (some 21) (sv 4))) _) _)
        try simp only [Act.put, sIA, sCS, sCZ]
        simp [go_sem, quietTo, Ext.refl, ↓IntWalk.iteOmega, f7, y8]
        all_goals try simp (disch := omega) only [IntWalk.i64_in]
        all_goals first
          | rfl
      refine fac_quiet 9 rfl rfl rfl (fun _ _ h _ => h) rfl rfl ?_
      apply Exists.intro
      refine ⟨fun sv w' hw' hfa => ?_, ?_⟩
      · refine ⟨rfl, ?_⟩
        simp only [putsL]
        change quietTo _ _ _ _ (Sem.run _ (execOp (Act.eval _) _) _)
        try simp only [Act.put, sIA, sCS, sCZ]
        simp [go_sem, quietTo, Ext.refl]
        all_goals first
          | rfl
      refine fac_quiet 10 rfl rfl rfl (fun _ _ h _ => h) rfl rfl ?_
      apply Exists.intro
      refine ⟨fun sv w' hw' hfa => ?_, ?_⟩
      · obtain ⟨f9, -⟩ := hfa
        replace f9 : sv 9 = _ := f9; (try dsimp only at f9)
        refine ⟨rfl, ?_⟩
        simp only [putsL]
        change quietTo _ _ _ _ (Sem.run _ (execOp (Act.eval (Act.put _ (some 26) (sv 9))) _) _)
        try simp only [Act.put, sIA, sCS, sCZ]
        simp [go_sem, quietTo, Ext.refl, ↓IntWalk.iteOmega, f9]
        all_goals try simp (disch := omega) only [IntWalk.i64_in]
        all_goals first
          | rfl
      refine fac_quiet 11 rfl rfl rfl (fun _ _ h _ => h) rfl rfl ?_
      apply Exists.intro
      refine ⟨fun sv w' hw' hfa => ?_, ?_⟩
      · obtain ⟨_, _, _, _, f8, _, f10, -⟩ := hfa
        replace f8 : sv 8 = _ := f8; (try dsimp only at f8); replace f10 : sv 10 = _ := f10; (try dsimp only at f10)
        have hk9 := (Ext.refl W).drew.trans hw'; obtain ⟨y1, -⟩ := (hB1.ext hk9).walk; obtain ⟨y2, -⟩ := (hY0.ext hk9).walk; have y8 := (hk9.walk.1 _ _ lw1).trans c8
        refine ⟨rfl, ?_⟩
        simp only [putsL]
        change quietTo _ _ _ _ (Sem.run _ (execOp (Act.eval (Act.put (Act.put (Act.put (Act.put (Act.put (Act.put (Act.put _ (some 27) (sv 10)) (some 26) (sv 9)) (some 25) (sv 8)) (some 24) (sv 7)) (some 23) (sv 6)) (some 22) (sv 5)) (some 21) (sv 4))) _) _)
        try simp only [Act.put, sIA, sCS, sCZ]
        simp [go_sem, quietTo, Ext.refl, ↓IntWalk.iteOmega, f8, f10, hwrp.out]
        all_goals try simp (disch := omega) only [IntWalk.i64_in]
        all_goals first
          | rfl
      refine fac_quiet 12 rfl rfl rfl (fun _ _ h _ => h) rfl rfl ?_
      apply Exists.intro
      refine ⟨fun sv w' hw' hfa => ?_, ?_⟩
      · obtain ⟨_, _, _, _, _, _, _, f11, -⟩ := hfa
        replace f11 : sv 11 = _ := f11; (try dsimp only at f11)
        have hk9 := (Ext.refl W).drew.trans hw'; obtain ⟨y1, -⟩ := (hB1.ext hk9).walk; obtain ⟨y2, -⟩ := (hY0.ext hk9).walk; have y8 := (hk9.walk.1 _ _ lw1).trans c8
        refine ⟨rfl, ?_⟩
        simp only [putsL]
        change quietTo _ _ _ _ (Sem.run _ (execOp (Act.eval (Act.put (Act.put (Act.put (Act.put (Act.put (Act.put (Act.put (Act.put _ (some 28) (sv 11)) (some 27) (sv 10)) (some 26) (sv 9)) (some 25) (sv 8)) (some 24) (sv 7)) (some 23) (sv 6)) (some 22) (sv 5)) (some 21) (sv 4))) _) _)
        try simp only [Act.put, sIA, sCS, sCZ]
        simp [go_sem, quietTo, Ext.refl, ↓IntWalk.iteOmega, f11, htd.out, hw3.out]
        all_goals try simp (disch := omega) only [IntWalk.i64_in]
        all_goals first
          | rfl
      refine fac_quiet 13 rfl rfl rfl (fun _ _ h _ => h) rfl rfl ?_
      apply Exists.intro
      refine ⟨fun sv w' hw' hfa => ?_, ?_⟩
      · refine ⟨rfl, ?_⟩
        simp only [putsL]
        change quietTo _ _ _ _ (Sem.run _ (execOp (Act.eval _) _) _)
        try simp only [Act.put, sIA, sCS, sCZ]
        simp [go_sem, quietTo, Ext.refl]
        all_goals first
          | rfl
      refine fac_quiet 14 rfl rfl rfl (fun _ _ h _ => h) rfl rfl ?_
      apply Exists.intro
      refine ⟨fun sv w' hw' hfa => ?_, ?_⟩
      · obtain ⟨_, _, _, _, _, _, _, _, f12, f13, -⟩ := hfa
        replace f12 : sv 12 = _ := f12; (try dsimp only at f12); replace f13 : sv 13 = _ := f13; (try dsimp only at f13)
        have hk9 := (Ext.refl W).drew.trans hw'; obtain ⟨y1, -⟩ := (hB1.ext hk9).walk; obtain ⟨y2, -⟩ := (hY0.ext hk9).walk; have y8 := (hk9.walk.1 _ _ lw1).trans c8
        refine ⟨rfl, ?_⟩
        simp only [putsL]
        change quietTo _ _ _ _ (Sem.run _ (execOp (Act.eval (Act.put (Act.put (Act.put (Act.put (Act.put (Act.put (Act.put (Act.put (Act.put (Act.put _ (some 30) (sv 13)) (some 29) (sv 12)) (some 28) (sv 11)) (some 27) (sv 10)) (some 26) (sv 9)) (some 25) (sv 8)) (some 24) (sv 7)) (some 23) (sv 6)) (some 22) (sv 5)) (some 21) (sv 4))) _) _)
        try simp only [Act.put, sIA, sCS, sCZ]
        simp [go_sem, quietTo, Ext.refl, ↓IntWalk.iteOmega, f12, f13, hw2.out]
        all_goals try simp (disch := omega) only [IntWalk.i64_in]
        all_goals first
          | rfl
      refine fac_quiet 15 rfl rfl rfl (fun _ _ h _ => h) rfl rfl ?_
      apply Exists.intro
      refine ⟨fun sv w' hw' hfa => ?_, ?_⟩
      · obtain ⟨_, f2, f3, _, _, _, _, _, _, _, _, _, _, f14, -⟩ := hfa
        replace f2 : sv 2 = _ := f2; (try dsimp only at f2); replace f3 : sv 3 = _ := f3; (try dsimp only at f3); replace f14 : sv 14 = _ := f14; (try dsimp only at f14)
        refine ⟨rfl, ?_⟩
        simp only [putsL]
        change quietTo _ _ _ _ (Sem.run _ (execOp (Act.eval (Act.put (Act.put (Act.put (Act.put (Act.put (Act.put (Act.put (Act.put (Act.put (Act.put (Act.put (Act.put (Act.put (Act.put _ (some 31) (sv 14)) (some 30) (sv 13)) (some 29) (sv 12)) (some 28) (sv 11)) (some 27) (sv 10)) (some 26) (sv 9)) (some 25) (sv 8)) (some 24) (sv 7)) (some 23) (sv 6)) (some 22) (sv 5)) (some 21) (sv 4)) (some 20) (sv 3)) (some 19) (sv 2)) (some 18) (sv 1))) _) _)
        try simp only [Act.put, sIA, sCS, sCZ]
        simp [go_sem, quietTo, Ext.refl, f2, f3, f14]
        all_goals first
          | rfl
      refine fac_row 16 rfl rfl rfl (fun _ _ h _ => h) (fun _ _ h => h.size) (fun _ _ _ _ _ he _ hb => hb.ext he) ?_
      apply Exists.intro
      apply Exists.intro
      apply Exists.intro
      apply Exists.intro
      refine ⟨fun sv w' hw' hfa => ?_, ?_⟩
      · obtain ⟨_, _, _, _, _, _, _, _, _, _, _, _, _, _, f15, -⟩ := hfa
        replace f15 : sv 15 = _ := f15; (try dsimp only at f15)
        refine ⟨rfl, ?_⟩
        simp only [putsL]
        change rowTo _ _ _ _ _ (Sem.run _ (execOp (Act.eval (Act.put (Act.put (Act.put (Act.put (Act.put (Act.put (Act.put (Act.put (Act.put (Act.put (Act.put (Act.put (Act.put (Act.put (Act.put _ (some 32) (sv 15)) (some 31) (sv 14)) (some 30) (sv 13)) (some 29) (sv 12)) (some 28) (sv 11)) (some 27) (sv 10)) (some 26) (sv 9)) (some 25) (sv 8)) (some 24) (sv 7)) (some 23) (sv 6)) (some 22) (sv 5)) (some 21) (sv 4)) (some 20) (sv 3)) (some 19) (sv 2)) (some 18) (sv 1))) _) _)
        try simp only [Act.put, sIA, sCS, sCZ]
        simp [go_sem, rowTo, Ext.refl, f15]
        all_goals try simp (disch := omega) only [IntWalk.i64_in]
        all_goals first
          | rfl
          | exact ⟨rfl, rfl⟩
          | exact ⟨⟨rfl, rfl⟩, rfl⟩
      refine fac_nil fun xq wrq herq hfrq hcrq holdq hapq => ?_
      obtain ⟨f0, f1, f2, f3, f4, f5, f6, f7, f8, f9, f10, f11, f12, f13, f14, f15, f16, -⟩ := hfrq
      replace f0 : xq 0 = _ := f0
      (try dsimp only at f0)
      replace f1 : xq 1 = _ := f1
      (try dsimp only at f1)
      replace f2 : xq 2 = _ := f2
      (try dsimp only at f2)
      replace f3 : xq 3 = _ := f3
      (try dsimp only at f3)
      replace f4 : xq 4 = _ := f4
      (try dsimp only at f4)
      replace f5 : xq 5 = _ := f5
      (try dsimp only at f5)
      replace f6 : xq 6 = _ := f6
      (try dsimp only at f6)
      replace f7 : xq 7 = _ := f7
      (try dsimp only at f7)
      replace f8 : xq 8 = _ := f8
      (try dsimp only at f8)
      replace f9 : xq 9 = _ := f9
      (try dsimp only at f9)
      replace f10 : xq 10 = _ := f10
      (try dsimp only at f10)
      replace f11 : xq 11 = _ := f11
      (try dsimp only at f11)
      replace f12 : xq 12 = _ := f12
      (try dsimp only at f12)
      replace f13 : xq 13 = _ := f13
      (try dsimp only at f13)
      replace f14 : xq 14 = _ := f14
      (try dsimp only at f14)
      replace f15 : xq 15 = _ := f15
      (try dsimp only at f15); obtain ⟨g16, f16, l16, b16⟩ := f16
      replace f16 : xq 16 = _ := f16
      obtain ⟨p16, q16⟩ := b16.walk
      change wpList _ _ _ _ (Act.put (Act.put (Act.put (Act.put (Act.put (Act.put (Act.put (Act.put (Act.put (Act.put (Act.put (Act.put (Act.put (Act.put (Act.put (Act.put (Act.put _ (some 17) (xq 0)) (some 18) (xq 1)) (some 19) (xq 2)) (some 20) (xq 3)) (some 21) (xq 4)) (some 22) (xq 5)) (some 23) (xq 6)) (some 24) (xq 7)) (some 25) (xq 8)) (some 26) (xq 9)) (some 27) (xq 10)) (some 28) (xq 11)) (some 29) (xq 12)) (some 30) (xq 13)) (some 31) (xq 14)) (some 32) (xq 15)) (some 33) (xq 16)) _
      simp only [putsL, Nat.reduceAdd, List.drop_succ_cons, List.drop_zero, List.drop_nil, Act.put, sIA, sCS, sCZ]
      try simp only [f0, f1, f2, f3, f4, f5, f6, f7, f8, f9, f10, f11, f12, f13, f14, f15, f16]
      clear f0 f1 f2 f3 f4 f5 f6 f7 f8 f9 f10 f11 f12 f13 f14 f15; clear holdq hapq
      have hkq := (Ext.refl W).drew.trans herq
      have hoq := own_ext hkq hown1.out
      have hEq := hEw.trans hkq
      have hBq := hB1.ext hkq
      have hszq := hEq.size
      have hBl := hBq.lt
      go_wp2_with (at_builtin; go_loud (refine wp_app1 _ (.tmp 17) (.tmp 33) 49 54 3 32 _ rfl rfl Tryz.underlying49 staInfo rfl (by decide) (by decide) (w.heap.size + 1) _ _ _ rfl hoq _ (staC ⟨x.name, r, (wd - Q.length) / 2 + k⟩) rfl rfl b16 (sta_one _) (by omega) (by omega) ?_; intro v' w6 hown6 hgrow6 _))
      go_roundw
      case rel => exact ⟨k + 1, by go_num, by omega, by rw [hst.out, flat_snoc]; exact hown6, hEq.grown hgrow6 fun j e => by have := (hoq.lt j e).1; omega, hBq.app hoq (by omega) hgrow6⟩
      case measure => simp [intOf]; omega
    · obtain rfl : k = Q.length := by omega
      rw [← hrl.out, List.take_length, hrl.out] at hown
      obtain ⟨p, c, rfl, hS⟩ := slc_of_own staC_len hown (by decide) (by omega)
      replace hS := Lib.hid hS
      go_wp2
      go_ret
      exact ⟨p, c, rfl, hS.out, hE⟩
set_option maxRecDepth 100000 in
set_option maxHeartbeats 1600000 in
theorem many_any (wp : Option Addr) (wcap : Nat) (wide : List Int) (hp : Option Addr) (hl hc : Nat) (n : Nat) (hn : n ≤ 1000) (w : World) (h : Slc 1 intC w wp wide.length wcap wide) (hwo : WideOk wide) :
    Calls Tryz.prog 37 #[.agg #[.slice wp wide.length wcap, .slice hp hl hc], .int .i64 n] w fun e w' => ∃ (q : Option Addr) (c : Nat), e = .returned (.slice q wide.length c) ∧ Slc 1 intC w' q wide.length c (manyL wide n wide.length) ∧ (∀ a, q = some a → w.heap.size ≤ a.block) ∧ Ext w w' := by
  have hE0 : Ext w (w.alloc (.cells #[.slice wp wide.length wcap, .slice hp hl hc] 48)) := (Ext.refl _).alloc _
  have hw10 := hwo.1
  replace hwo := Lib.hid hwo
  go_enter Tryz.func37, Tryz.ntmps37
  go_wp2
  go_loopw [5, 1, 12] (fun v5 v1 v12 wr => ∃ k : Nat, v12 = .int .i64 k ∧ v1 = .int .i64 (leftN wide n k) ∧ k ≤ wide.length ∧ wr.ownsRow w.heap.size 3 1 v5 k ((manyL wide n k).flatMap intC) ∧ Ext w wr) (fun _ _ v12 _ => wide.length - (intOf v12).toNat)
  case atStart => exact ⟨0, rfl, rfl, Nat.zero_le _, World.ownsRow_nil _ _ _ _, hE0⟩
  case round =>
    obtain ⟨k, rfl, rfl, hk, hown, hE⟩ := hrel
    by_cases hlt : k < wide.length
    · obtain ⟨x, hx⟩ := getD_some (rfl : wide.length = wide.length) hlt
      have hkI : (k : Int) < wide.length := by omega
      rcases (slcC h).2 with ⟨-, e⟩ | ⟨b, off, rfl, hb, hEl⟩
      · rw [e] at hx; cases hx
      have c0 := (hEl.ext hE hb).int hx
      have lb := Nat.lt_of_lt_of_le hb hE.size
      obtain ⟨v1, v2⟩ := hwo.out.2 x (List.mem_of_getElem? hx)
      have e9 : wide.getD k 0 = x := by rw [List.getD_eq_getElem?_getD, hx]; rfl
      have hln := leftN_le wide n k
      have hls := leftN_succ wide n k
      have hms := manyL_succ wide n k
      have htk : takeN wide n k = min x.toNat (leftN wide n k) := by unfold takeN; rw [e9]
      generalize leftN wide n k = l1 at *
      generalize takeN wide n k = tk at *
      clear e9 hx hEl
      have hsz := hE.size
      replace hms := Lib.hid hms; replace hown := Lib.hid hown
      have hmn : min x (l1 : Int) = (tk : Int) := by omega
      have hle9 : (tk : Int) ≤ l1 := by omega
      have hl2 : ((leftN wide n (k + 1) : Nat) : Int) = l1 - tk := by omega
      clear htk hls; replace hl2 := Lib.hid hl2
      go_wp2_with (at_builtin; go_loud (refine wp_app1 _ (.tmp 19) (.tmp 21) 22 3 1 8 _ rfl rfl Tryz.underlying22 intInfoT rfl (by decide) (by decide) w.heap.size _ _ _ rfl (hown.out.alloc _) wr.heap.size (intC tk) rfl rfl (Blk.new' rfl) (by simp [intC, Value.oneCell']) (by omega) (by simp; omega) ?_; intro v' w6 hown6 hgrow6 _))
      go_roundw
      case rel => exact ⟨k + 1, by go_num, by rw [hl2.out], by omega, by rw [hms.out, flat_snoc]; exact hown6, (hE.alloc _).grown hgrow6 fun j e => by have := (hown.out.lt j e).1; omega⟩
      case measure => simp [intOf]; omega
    · obtain rfl : k = wide.length := by omega
      obtain ⟨p, c, rfl, hS⟩ := slc_of_own (enc := intC) (fun _ => rfl) hown (by decide) (by omega)
      have hfr : ∀ a, p = some a → w.heap.size ≤ a.block := fun a ha => by subst ha; exact (hown.lt a.block rfl).1
      replace hS := Lib.hid hS; replace hfr := Lib.hid hfr; clear hown
      go_wp2
      go_ret
      exact ⟨p, c, rfl, hS.out, hfr.out, hE⟩
end Go.Proofs.YtdehmioobkneiaaGreatDoor
