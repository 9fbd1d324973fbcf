/- The law of voices and parts that are handed in: they stay. Conditions: the argument is a list of ints that lies in memory; the table of powers. -/
import Derived.Test.YtdehmioobkneiaaGreatDoorVsDvK
import Derived.Test.YtdehmioobkneiaaGreatDoorVsJ29
import Derived.Test.YtdehmioobkneiaaGreatDoorVsVoM
import Derived.Test.YtdehmioobkneiaaGreatDoorVsGiL
import Derived.Test.YtdehmioobkneiaaGreatDoorVsJ11
import Derived.Test.YtdehmioobkneiaaGreatDoorVsJ47
import Derived.Laws.StructEq
set_option linter.unusedSimpArgs false
set_option linter.unusedVariables false
namespace Go.Proofs.YtdehmioobkneiaaGreatDoor
open Go Go.RowKit

set_option maxRecDepth 100000 in
set_option maxHeartbeats 1600000 in
theorem eqPartD_any (p q : Option Addr) (n c d : Nat) (xs : List PartV) (w : World) (h1 : Slc 5 partC w p n c xs) (h2 : Slc 5 partC w q n d xs) (hn : n ≤ 100000) :
    Calls Tryz.prog 21 #[.slice p n c, .slice q n d] w fun e w' => e = .returned (.bool true) ∧ Ext w w' := by
  obtain ⟨hl, hp⟩ := slcC h1
  obtain ⟨-, hq⟩ := slcC h2
  subst hl
  replace hp := Lib.hid hp
  replace hq := Lib.hid hq
  clear h1 h2
  go_enter Tryz.func21, Tryz.ntmps21
  go_wp2
  go_loopw [13] (fun i wr => ∃ k : Nat, k ≤ xs.length ∧ i = .int .i64 k ∧ Ext w wr) (fun i _ => xs.length - (intOf i).toNat)
  case atStart => exact ⟨0, Nat.zero_le _, rfl, Ext.refl _⟩
  case round =>
    obtain ⟨k, hk, rfl, hE⟩ := hrel
    by_cases hlt : k < xs.length
    · obtain ⟨x, hx⟩ := getD_some (rfl : xs.length = xs.length) hlt
      rcases hp.out with ⟨-, e⟩ | ⟨b1, o1, rfl, hb1, hE1⟩
      · rw [e] at hx; cases hx
      rcases hq.out with ⟨-, e⟩ | ⟨b2, o2, rfl, hb2, hE2⟩
      · rw [e] at hx; cases hx
      obtain ⟨c1, c3, c5, c7, c9⟩ := (hE1.ext hE hb1).part hx
      obtain ⟨c2, c4, c6, c8, ca⟩ := (hE2.ext hE hb2).part hx
      have l1 := Nat.lt_of_lt_of_le hb1 hE.size
      have l2 := Nat.lt_of_lt_of_le hb2 hE.size
      have hkI : (k : Int) < xs.length := by omega
      clear hx hE1 hE2
      go_upto_region 6 with fail
      refine wp_region_facts [] [([], false, false), ([], false, false), ([0, 1], false, false), ([0, 1, 2], false, false), ([], false, false), ([], false, false), ([4, 5], false, false), ([4, 5, 6], false, false), ([0, 1, 2, 3, 4, 5, 6, 7], false, false)] (Ext) Ext (fun _ => True) (by kernel_rfl) (by kernel_rfl) Ext.refl (fun _ _ _ => Ext.trans) (fun _ _ h => h) (fun _ _ h => h.size) (fun _ _ h _ => h) trivial ?_
      dsimp only [List.length_cons, List.length_nil, List.drop_succ_cons, List.drop_zero, List.drop_nil]
      refine fac_quiet 0 rfl rfl rfl (fun _ _ h _ => h) rfl rfl ?_
      apply Exists.intro
      refine ⟨fun sv w' hw' hfa => ?_, ?_⟩
      · refine ⟨rfl, ?_⟩
        simp only [putsL]
        change quietTo _ _ _ _ (Sem.run _ (execOp (Act.eval _) _) _)
        try simp only [Act.put, List.setIfInBounds_toArray, List.set_cons_succ, List.set_cons_zero]
        simp [go_sem, quietTo, Ext.refl]
        all_goals first
          | rfl
      refine fac_quiet 1 rfl rfl rfl (fun _ _ h _ => h) rfl rfl ?_
      apply Exists.intro
      refine ⟨fun sv w' hw' hfa => ?_, ?_⟩
      · refine ⟨rfl, ?_⟩
        simp only [putsL]
        change quietTo _ _ _ _ (Sem.run _ (execOp (Act.eval _) _) _)
        try simp only [Act.put, List.setIfInBounds_toArray, List.set_cons_succ, List.set_cons_zero]
        simp [go_sem, quietTo, Ext.refl]
        all_goals first
          | rfl
      refine fac_quiet 2 rfl rfl rfl (fun _ _ h _ => h) rfl rfl ?_
      apply Exists.intro
      refine ⟨fun sv w' hw' hfa => ?_, ?_⟩
      · obtain ⟨f0, f1, -⟩ := hfa
        replace f0 : sv 0 = _ := f0
        try dsimp only at f0
        replace f1 : sv 1 = _ := f1
        try dsimp only at f1
        have hk9 := (Ext.refl wr).drew.trans hw'; obtain ⟨hc, hff, hz9⟩ := hk9.walk; have y1 := (hc _ _ l1).trans c1; have y2 := (hc _ _ l2).trans c2; have y3 := (hc _ _ l1).trans c3; have y4 := (hc _ _ l2).trans c4; have y5 := (hc _ _ l1).trans c5; have y6 := (hc _ _ l2).trans c6; have y7 := (hc _ _ l1).trans c7; have y8 := (hc _ _ l2).trans c8; have y9 := (hc _ _ l1).trans c9; have ya := (hc _ _ l2).trans ca
        refine ⟨rfl, ?_⟩
        simp only [putsL]
        change quietTo _ _ _ _ (Sem.run _ (execOp (Act.eval (Act.put (Act.put _ (some 17) (sv 1)) (some 16) (sv 0))) _) _)
        try simp only [Act.put, List.setIfInBounds_toArray, List.set_cons_succ, List.set_cons_zero]
        simp [go_sem, quietTo, Ext.refl, ↓IntWalk.iteOmega, f0, f1, hkI]
        all_goals try simp (disch := omega) only [IntWalk.i64_in]
        all_goals first
          | rfl
      refine fac_quiet 3 rfl rfl rfl (fun _ _ h _ => h) rfl rfl ?_
      apply Exists.intro
      refine ⟨fun sv w' hw' hfa => ?_, ?_⟩
      · obtain ⟨_, _, f2, -⟩ := hfa
        replace f2 : sv 2 = _ := f2
        try dsimp only at f2
        have hk9 := (Ext.refl wr).drew.trans hw'; obtain ⟨hc, hff, hz9⟩ := hk9.walk; have y1 := (hc _ _ l1).trans c1; have y2 := (hc _ _ l2).trans c2; have y3 := (hc _ _ l1).trans c3; have y4 := (hc _ _ l2).trans c4; have y5 := (hc _ _ l1).trans c5; have y6 := (hc _ _ l2).trans c6; have y7 := (hc _ _ l1).trans c7; have y8 := (hc _ _ l2).trans c8; have y9 := (hc _ _ l1).trans c9; have ya := (hc _ _ l2).trans ca
        refine ⟨rfl, ?_⟩
        simp only [putsL]
        change quietTo _ _ _ _ (Sem.run _ (execOp (Act.eval (Act.put (Act.put (Act.put _ (some 18) (sv 2)) (some 17) (sv 1)) (some 16) (sv 0))) _) _)
        try simp only [Act.put, List.setIfInBounds_toArray, List.set_cons_succ, List.set_cons_zero]
        simp [go_sem, quietTo, Ext.refl, ↓IntWalk.iteOmega, f2, y1, y3, y5, y7, y9]
        all_goals try simp (disch := omega) only [IntWalk.i64_in]
        all_goals first
          | rfl
      refine fac_quiet 4 rfl rfl rfl (fun _ _ h _ => h) rfl rfl ?_
      apply Exists.intro
      refine ⟨fun sv w' hw' hfa => ?_, ?_⟩
      · refine ⟨rfl, ?_⟩
        simp only [putsL]
        change quietTo _ _ _ _ (Sem.run _ (execOp (Act.eval _) _) _)
        try simp only [Act.put, List.setIfInBounds_toArray, List.set_cons_succ, List.set_cons_zero]
        simp [go_sem, quietTo, Ext.refl]
        all_goals first
          | rfl
      refine fac_quiet 5 rfl rfl rfl (fun _ _ h _ => h) rfl rfl ?_
      apply Exists.intro
      refine ⟨fun sv w' hw' hfa => ?_, ?_⟩
      · refine ⟨rfl, ?_⟩
        simp only [putsL]
        change quietTo _ _ _ _ (Sem.run _ (execOp (Act.eval _) _) _)
        try simp only [Act.put, List.setIfInBounds_toArray, List.set_cons_succ, List.set_cons_zero]
        simp [go_sem, quietTo, Ext.refl]
        all_goals first
          | rfl
      refine fac_quiet 6 rfl rfl rfl (fun _ _ h _ => h) rfl rfl ?_
      apply Exists.intro
      refine ⟨fun sv w' hw' hfa => ?_, ?_⟩
      · obtain ⟨f4, f5, -⟩ := hfa
        replace f4 : sv 4 = _ := f4
        try dsimp only at f4
        replace f5 : sv 5 = _ := f5
        try dsimp only at f5
        have hk9 := (Ext.refl wr).drew.trans hw'; obtain ⟨hc, hff, hz9⟩ := hk9.walk; have y1 := (hc _ _ l1).trans c1; have y2 := (hc _ _ l2).trans c2; have y3 := (hc _ _ l1).trans c3; have y4 := (hc _ _ l2).trans c4; have y5 := (hc _ _ l1).trans c5; have y6 := (hc _ _ l2).trans c6; have y7 := (hc _ _ l1).trans c7; have y8 := (hc _ _ l2).trans c8; have y9 := (hc _ _ l1).trans c9; have ya := (hc _ _ l2).trans ca
        refine ⟨rfl, ?_⟩
        simp only [putsL]
        change quietTo _ _ _ _ (Sem.run _ (execOp (Act.eval (Act.put (Act.put _ (some 21) (sv 5)) (some 20) (sv 4))) _) _)
        try simp only [Act.put, List.setIfInBounds_toArray, List.set_cons_succ, List.set_cons_zero]
        simp [go_sem, quietTo, Ext.refl, ↓IntWalk.iteOmega, f4, f5, hkI]
        all_goals try simp (disch := omega) only [IntWalk.i64_in]
        all_goals first
          | rfl
      refine fac_quiet 7 rfl rfl rfl (fun _ _ h _ => h) rfl rfl ?_
      apply Exists.intro
      refine ⟨fun sv w' hw' hfa => ?_, ?_⟩
      · obtain ⟨_, _, f6, -⟩ := hfa
        replace f6 : sv 6 = _ := f6
        try dsimp only at f6
        have hk9 := (Ext.refl wr).drew.trans hw'; obtain ⟨hc, hff, hz9⟩ := hk9.walk; have y1 := (hc _ _ l1).trans c1; have y2 := (hc _ _ l2).trans c2; have y3 := (hc _ _ l1).trans c3; have y4 := (hc _ _ l2).trans c4; have y5 := (hc _ _ l1).trans c5; have y6 := (hc _ _ l2).trans c6; have y7 := (hc _ _ l1).trans c7; have y8 := (hc _ _ l2).trans c8; have y9 := (hc _ _ l1).trans c9; have ya := (hc _ _ l2).trans ca
        refine ⟨rfl, ?_⟩
        simp only [putsL]
        change quietTo _ _ _ _ (Sem.run _ (execOp (Act.eval (Act.put (Act.put (Act.put _ (some 22) (sv 6)) (some 21) (sv 5)) (some 20) (sv 4))) _) _)
        try simp only [Act.put, List.setIfInBounds_toArray, List.set_cons_succ, List.set_cons_zero]
        simp [go_sem, quietTo, Ext.refl, ↓IntWalk.iteOmega, f6, y2, y4, y6, y8, ya]
        all_goals try simp (disch := omega) only [IntWalk.i64_in]
        all_goals first
          | rfl
      refine fac_quiet 8 rfl rfl rfl (fun _ _ h _ => h) rfl rfl ?_
      apply Exists.intro
      refine ⟨fun sv w' hw' hfa => ?_, ?_⟩
      · obtain ⟨_, _, _, f3, _, _, _, f7, -⟩ := hfa
        replace f3 : sv 3 = _ := f3
        try dsimp only at f3
        replace f7 : sv 7 = _ := f7
        try dsimp only at f7
        refine ⟨rfl, ?_⟩
        simp only [putsL]
        change quietTo _ _ _ _ (Sem.run _ (execOp (Act.eval (Act.put (Act.put (Act.put (Act.put (Act.put (Act.put (Act.put (Act.put _ (some 23) (sv 7)) (some 22) (sv 6)) (some 21) (sv 5)) (some 20) (sv 4)) (some 19) (sv 3)) (some 18) (sv 2)) (some 17) (sv 1)) (some 16) (sv 0))) _) _)
        try simp only [Act.put, List.setIfInBounds_toArray, List.set_cons_succ, List.set_cons_zero]
        simp [go_sem, quietTo, Ext.refl, ↓IntWalk.iteOmega, f3, f7]
        all_goals try simp (disch := omega) only [IntWalk.i64_in]
        all_goals first
          | rfl
      refine fac_nil fun xq wrq herq hfrq hcrq holdq hapq => ?_
      obtain ⟨f0, f1, f2, f3, f4, f5, f6, f7, f8, -⟩ := hfrq
      replace f0 : xq 0 = _ := f0
      try dsimp only at f0
      replace f1 : xq 1 = _ := f1
      try dsimp only at f1
      replace f2 : xq 2 = _ := f2
      try dsimp only at f2
      replace f3 : xq 3 = _ := f3
      try dsimp only at f3
      replace f4 : xq 4 = _ := f4
      try dsimp only at f4
      replace f5 : xq 5 = _ := f5
      try dsimp only at f5
      replace f6 : xq 6 = _ := f6
      try dsimp only at f6
      replace f7 : xq 7 = _ := f7
      try dsimp only at f7
      replace f8 : xq 8 = _ := f8
      try dsimp only at f8
      change wpList _ _ _ _ (Act.put (Act.put (Act.put (Act.put (Act.put (Act.put (Act.put (Act.put (Act.put _ (some 16) (xq 0)) (some 17) (xq 1)) (some 18) (xq 2)) (some 19) (xq 3)) (some 20) (xq 4)) (some 21) (xq 5)) (some 22) (xq 6)) (some 23) (xq 7)) (some 24) (xq 8)) _
      simp only [putsL, Nat.reduceAdd, List.drop_succ_cons, List.drop_zero, List.drop_nil, Act.put, List.setIfInBounds_toArray, List.set_cons_succ, List.set_cons_zero]
      try simp only [f0, f1, f2, f3, f4, f5, f6, f7, f8]
      clear f0 f1 f2 f3 f4 f5 f6 f7 f8
      clear holdq hapq
      go_wp2
      go_roundw
      case rel => exact ⟨k + 1, by omega, by go_num, hE.trans ((Ext.refl _).drew.trans herq)⟩
      case measure => simp [intOf]; omega
    · obtain rfl : k = xs.length := by omega
      go_wp2
      go_ret
      exact ⟨rfl, hE⟩
set_option maxRecDepth 100000 in
set_option maxHeartbeats 1600000 in
theorem eqVoiD_any (p q : Option Addr) (n c d : Nat) (xs : List VoiceV) (w : World) (h1 : Slc 4 voiC w p n c xs) (h2 : Slc 4 voiC w q n d xs) (hn : n ≤ 100000) :
    Calls Tryz.prog 20 #[.slice p n c, .slice q n d] w fun e w' => e = .returned (.bool true) ∧ Ext w w' := by
  obtain ⟨hl, hp⟩ := slcC h1
  obtain ⟨-, hq⟩ := slcC h2
  subst hl
  replace hp := Lib.hid hp
  replace hq := Lib.hid hq
  clear h1 h2
  go_enter Tryz.func20, Tryz.ntmps20
  go_wp2
  go_loopw [13] (fun i wr => ∃ k : Nat, k ≤ xs.length ∧ i = .int .i64 k ∧ Ext w wr) (fun i _ => xs.length - (intOf i).toNat)
  case atStart => exact ⟨0, Nat.zero_le _, rfl, Ext.refl _⟩
  case round =>
    obtain ⟨k, hk, rfl, hE⟩ := hrel
    by_cases hlt : k < xs.length
    · obtain ⟨x, hx⟩ := getD_some (rfl : xs.length = xs.length) hlt
      rcases hp.out with ⟨-, e⟩ | ⟨b1, o1, rfl, hb1, hE1⟩
      · rw [e] at hx; cases hx
      rcases hq.out with ⟨-, e⟩ | ⟨b2, o2, rfl, hb2, hE2⟩
      · rw [e] at hx; cases hx
      obtain ⟨c1, c3, c5, c7⟩ := (hE1.ext hE hb1).voi hx
      obtain ⟨c2, c4, c6, c8⟩ := (hE2.ext hE hb2).voi hx
      have l1 := Nat.lt_of_lt_of_le hb1 hE.size
      have l2 := Nat.lt_of_lt_of_le hb2 hE.size
      have hkI : (k : Int) < xs.length := by omega
      clear hx hE1 hE2
      go_upto_region 6 with fail
      refine wp_region_facts [] [([], false, false), ([], false, false), ([0, 1], false, false), ([0, 1, 2], false, false), ([], false, false), ([], false, false), ([4, 5], false, false), ([4, 5, 6], false, false), ([0, 1, 2, 3, 4, 5, 6, 7], false, false)] (Ext) Ext (fun _ => True) (by kernel_rfl) (by kernel_rfl) Ext.refl (fun _ _ _ => Ext.trans) (fun _ _ h => h) (fun _ _ h => h.size) (fun _ _ h _ => h) trivial ?_
      dsimp only [List.length_cons, List.length_nil, List.drop_succ_cons, List.drop_zero, List.drop_nil]
      refine fac_quiet 0 rfl rfl rfl (fun _ _ h _ => h) rfl rfl ?_
      apply Exists.intro
      refine ⟨fun sv w' hw' hfa => ?_, ?_⟩
      · refine ⟨rfl, ?_⟩
        simp only [putsL]
        change quietTo _ _ _ _ (Sem.run _ (execOp (Act.eval _) _) _)
        try simp only [Act.put, List.setIfInBounds_toArray, List.set_cons_succ, List.set_cons_zero]
        simp [go_sem, quietTo, Ext.refl]
        all_goals first
          | rfl
      refine fac_quiet 1 rfl rfl rfl (fun _ _ h _ => h) rfl rfl ?_
      apply Exists.intro
      refine ⟨fun sv w' hw' hfa => ?_, ?_⟩
      · refine ⟨rfl, ?_⟩
        simp only [putsL]
        change quietTo _ _ _ _ (Sem.run _ (execOp (Act.eval _) _) _)
        try simp only [Act.put, List.setIfInBounds_toArray, List.set_cons_succ, List.set_cons_zero]
        simp [go_sem, quietTo, Ext.refl]
        all_goals first
          | rfl
      refine fac_quiet 2 rfl rfl rfl (fun _ _ h _ => h) rfl rfl ?_
      apply Exists.intro
      refine ⟨fun sv w' hw' hfa => ?_, ?_⟩
      · obtain ⟨f0, f1, -⟩ := hfa
        replace f0 : sv 0 = _ := f0
        try dsimp only at f0
        replace f1 : sv 1 = _ := f1
        try dsimp only at f1
        have hk9 := (Ext.refl wr).drew.trans hw'; obtain ⟨hc, hff, hz9⟩ := hk9.walk; have y1 := (hc _ _ l1).trans c1; have y2 := (hc _ _ l2).trans c2; have y3 := (hc _ _ l1).trans c3; have y4 := (hc _ _ l2).trans c4; have y5 := (hc _ _ l1).trans c5; have y6 := (hc _ _ l2).trans c6; have y7 := (hc _ _ l1).trans c7; have y8 := (hc _ _ l2).trans c8
        refine ⟨rfl, ?_⟩
        simp only [putsL]
        change quietTo _ _ _ _ (Sem.run _ (execOp (Act.eval (Act.put (Act.put _ (some 17) (sv 1)) (some 16) (sv 0))) _) _)
        try simp only [Act.put, List.setIfInBounds_toArray, List.set_cons_succ, List.set_cons_zero]
        simp [go_sem, quietTo, Ext.refl, ↓IntWalk.iteOmega, f0, f1, hkI]
        all_goals try simp (disch := omega) only [IntWalk.i64_in]
        all_goals first
          | rfl
      refine fac_quiet 3 rfl rfl rfl (fun _ _ h _ => h) rfl rfl ?_
      apply Exists.intro
      refine ⟨fun sv w' hw' hfa => ?_, ?_⟩
      · obtain ⟨_, _, f2, -⟩ := hfa
        replace f2 : sv 2 = _ := f2
        try dsimp only at f2
        have hk9 := (Ext.refl wr).drew.trans hw'; obtain ⟨hc, hff, hz9⟩ := hk9.walk; have y1 := (hc _ _ l1).trans c1; have y2 := (hc _ _ l2).trans c2; have y3 := (hc _ _ l1).trans c3; have y4 := (hc _ _ l2).trans c4; have y5 := (hc _ _ l1).trans c5; have y6 := (hc _ _ l2).trans c6; have y7 := (hc _ _ l1).trans c7; have y8 := (hc _ _ l2).trans c8
        refine ⟨rfl, ?_⟩
        simp only [putsL]
        change quietTo _ _ _ _ (Sem.run _ (execOp (Act.eval (Act.put (Act.put (Act.put _ (some 18) (sv 2)) (some 17) (sv 1)) (some 16) (sv 0))) _) _)
        try simp only [Act.put, List.setIfInBounds_toArray, List.set_cons_succ, List.set_cons_zero]
        simp [go_sem, quietTo, Ext.refl, ↓IntWalk.iteOmega, f2, y1, y3, y5, y7]
        all_goals try simp (disch := omega) only [IntWalk.i64_in]
        all_goals first
          | rfl
      refine fac_quiet 4 rfl rfl rfl (fun _ _ h _ => h) rfl rfl ?_
      apply Exists.intro
      refine ⟨fun sv w' hw' hfa => ?_, ?_⟩
      · refine ⟨rfl, ?_⟩
        simp only [putsL]
        change quietTo _ _ _ _ (Sem.run _ (execOp (Act.eval _) _) _)
        try simp only [Act.put, List.setIfInBounds_toArray, List.set_cons_succ, List.set_cons_zero]
        simp [go_sem, quietTo, Ext.refl]
        all_goals first
          | rfl
      refine fac_quiet 5 rfl rfl rfl (fun _ _ h _ => h) rfl rfl ?_
      apply Exists.intro
      refine ⟨fun sv w' hw' hfa => ?_, ?_⟩
      · refine ⟨rfl, ?_⟩
        simp only [putsL]
        change quietTo _ _ _ _ (Sem.run _ (execOp (Act.eval _) _) _)
        try simp only [Act.put, List.setIfInBounds_toArray, List.set_cons_succ, List.set_cons_zero]
        simp [go_sem, quietTo, Ext.refl]
        all_goals first
          | rfl
      refine fac_quiet 6 rfl rfl rfl (fun _ _ h _ => h) rfl rfl ?_
      apply Exists.intro
      refine ⟨fun sv w' hw' hfa => ?_, ?_⟩
      · obtain ⟨f4, f5, -⟩ := hfa
        replace f4 : sv 4 = _ := f4
        try dsimp only at f4
        replace f5 : sv 5 = _ := f5
        try dsimp only at f5
        have hk9 := (Ext.refl wr).drew.trans hw'; obtain ⟨hc, hff, hz9⟩ := hk9.walk; have y1 := (hc _ _ l1).trans c1; have y2 := (hc _ _ l2).trans c2; have y3 := (hc _ _ l1).trans c3; have y4 := (hc _ _ l2).trans c4; have y5 := (hc _ _ l1).trans c5; have y6 := (hc _ _ l2).trans c6; have y7 := (hc _ _ l1).trans c7; have y8 := (hc _ _ l2).trans c8
        refine ⟨rfl, ?_⟩
        simp only [putsL]
        change quietTo _ _ _ _ (Sem.run _ (execOp (Act.eval (Act.put (Act.put _ (some 21) (sv 5)) (some 20) (sv 4))) _) _)
        try simp only [Act.put, List.setIfInBounds_toArray, List.set_cons_succ, List.set_cons_zero]
        simp [go_sem, quietTo, Ext.refl, ↓IntWalk.iteOmega, f4, f5, hkI]
        all_goals try simp (disch := omega) only [IntWalk.i64_in]
        all_goals first
          | rfl
      refine fac_quiet 7 rfl rfl rfl (fun _ _ h _ => h) rfl rfl ?_
      apply Exists.intro
      refine ⟨fun sv w' hw' hfa => ?_, ?_⟩
      · obtain ⟨_, _, f6, -⟩ := hfa
        replace f6 : sv 6 = _ := f6
        try dsimp only at f6
        have hk9 := (Ext.refl wr).drew.trans hw'; obtain ⟨hc, hff, hz9⟩ := hk9.walk; have y1 := (hc _ _ l1).trans c1; have y2 := (hc _ _ l2).trans c2; have y3 := (hc _ _ l1).trans c3; have y4 := (hc _ _ l2).trans c4; have y5 := (hc _ _ l1).trans c5; have y6 := (hc _ _ l2).trans c6; have y7 := (hc _ _ l1).trans c7; have y8 := (hc _ _ l2).trans c8
        refine ⟨rfl, ?_⟩
        simp only [putsL]
        change quietTo _ _ _ _ (Sem.run _ (execOp (Act.eval (Act.put (Act.put (Act.put _ (some 22) (sv 6)) (some 21) (sv 5)) (some 20) (sv 4))) _) _)
        try simp only [Act.put, List.setIfInBounds_toArray, List.set_cons_succ, List.set_cons_zero]
        simp [go_sem, quietTo, Ext.refl, ↓IntWalk.iteOmega, f6, y2, y4, y6, y8]
        all_goals try simp (disch := omega) only [IntWalk.i64_in]
        all_goals first
          | rfl
      refine fac_quiet 8 rfl rfl rfl (fun _ _ h _ => h) rfl rfl ?_
      apply Exists.intro
      refine ⟨fun sv w' hw' hfa => ?_, ?_⟩
      · obtain ⟨_, _, _, f3, _, _, _, f7, -⟩ := hfa
        replace f3 : sv 3 = _ := f3
        try dsimp only at f3
        replace f7 : sv 7 = _ := f7
        try dsimp only at f7
        refine ⟨rfl, ?_⟩
        simp only [putsL]
        change quietTo _ _ _ _ (Sem.run _ (execOp (Act.eval (Act.put (Act.put (Act.put (Act.put (Act.put (Act.put (Act.put (Act.put _ (some 23) (sv 7)) (some 22) (sv 6)) (some 21) (sv 5)) (some 20) (sv 4)) (some 19) (sv 3)) (some 18) (sv 2)) (some 17) (sv 1)) (some 16) (sv 0))) _) _)
        try simp only [Act.put, List.setIfInBounds_toArray, List.set_cons_succ, List.set_cons_zero]
        simp [go_sem, quietTo, Ext.refl, ↓IntWalk.iteOmega, f3, f7]
        all_goals try simp (disch := omega) only [IntWalk.i64_in]
        all_goals first
          | rfl
      refine fac_nil fun xq wrq herq hfrq hcrq holdq hapq => ?_
      obtain ⟨f0, f1, f2, f3, f4, f5, f6, f7, f8, -⟩ := hfrq
      replace f0 : xq 0 = _ := f0
      try dsimp only at f0
      replace f1 : xq 1 = _ := f1
      try dsimp only at f1
      replace f2 : xq 2 = _ := f2
      try dsimp only at f2
      replace f3 : xq 3 = _ := f3
      try dsimp only at f3
      replace f4 : xq 4 = _ := f4
      try dsimp only at f4
      replace f5 : xq 5 = _ := f5
      try dsimp only at f5
      replace f6 : xq 6 = _ := f6
      try dsimp only at f6
      replace f7 : xq 7 = _ := f7
      try dsimp only at f7
      replace f8 : xq 8 = _ := f8
      try dsimp only at f8
      change wpList _ _ _ _ (Act.put (Act.put (Act.put (Act.put (Act.put (Act.put (Act.put (Act.put (Act.put _ (some 16) (xq 0)) (some 17) (xq 1)) (some 18) (xq 2)) (some 19) (xq 3)) (some 20) (xq 4)) (some 21) (xq 5)) (some 22) (xq 6)) (some 23) (xq 7)) (some 24) (xq 8)) _
      simp only [putsL, Nat.reduceAdd, List.drop_succ_cons, List.drop_zero, List.drop_nil, Act.put, List.setIfInBounds_toArray, List.set_cons_succ, List.set_cons_zero]
      try simp only [f0, f1, f2, f3, f4, f5, f6, f7, f8]
      clear f0 f1 f2 f3 f4 f5 f6 f7 f8
      clear holdq hapq
      go_wp2
      go_roundw
      case rel => exact ⟨k + 1, by omega, by go_num, hE.trans ((Ext.refl _).drew.trans herq)⟩
      case measure => simp [intOf]; omega
    · obtain rfl : k = xs.length := by omega
      go_wp2
      go_ret
      exact ⟨rfl, hE⟩
def spoiltV : ByteArray := ⟨#[115, 112, 111, 105, 108, 116]⟩
/-- A row stands when another row, of another type, changes. -/
theorem own_setT {w : World} {base base' k k' n m g cap : Nat} {e e' : TypeId} {v : Value} {xs ys : List Value} (h : w.ownsRow base e k v n xs) (hz : w.ownsRow base' e' k' (.slice (some ⟨g, 0, none⟩) m cap) m ys) (hne : e ≠ e') (o : Nat) (u : Value) : (w.setCell ⟨g, o, none⟩ u).ownsRow base e k v n xs := by
  refine h.kept (grown_set w ⟨g, o, none⟩ u) ?_
  rcases own_own h hz hne with e | e
  · exact .inl e
  · exact .inr e
theorem own_lenV {α : Type} {k : Nat} {enc : α → List Value} (hk : ∀ x, (enc x).length = k) (h0 : 0 < k) {w : World} {base n : Nat} {e : TypeId} {v : Value} {T : List α} (h : w.ownsRow base e k v n (T.flatMap enc)) : T.length = n := by
  have h1 := h.1
  have h2 : ∀ l : List α, (l.flatMap enc).length = l.length * k := fun l => by
    induction l with
    | nil => simp
    | cons a l ih => rw [List.flatMap_cons, List.length_append, ih, hk, List.length_cons, Nat.add_mul]; omega
  rw [h2] at h1
  exact Nat.eq_of_mul_eq_mul_right h0 h1
set_option maxRecDepth 100000 in
set_option maxHeartbeats 1600000 in
theorem spoil1_any (q : Option Addr) (n d gb base : Nat) (T : List (ByteArray × ByteArray)) (w0 w : World) (hB : Blk w gb 31 #[.slice q n d]) (ho : w.ownsRow base 39 2 (.slice q n d) n (T.flatMap nmpC)) (hE : Ext w0 w) (hb : w0.heap.size ≤ base) (hn : n ≤ 1000) :
    Calls Tryz.prog 19 #[.slice (some ⟨gb, 0, none⟩) 1 1] w fun e w' => e = .returned (.tuple #[]) ∧ Ext w0 w' := by
  go_enter Tryz.func19, Tryz.ntmps19
  go_wp2
  go_loopw [7] (fun v7 wr => ∃ (i : Nat) (T : List (ByteArray × ByteArray)), v7 = .int .i64 i ∧ i ≤ 1 ∧ wr.ownsRow base 39 2 (.slice q n d) n (T.flatMap nmpC) ∧ Blk wr gb 31 #[.slice q n d] ∧ Ext w0 wr) (fun v7 _ => 1 - (intOf v7).toNat)
  case atStart => exact ⟨0, T, rfl, by omega, ho, hB, hE⟩
  case round =>
    clear ho hB hE
    obtain ⟨i, T, rfl, hi, ho, hB, hE⟩ := hrel
    by_cases h1 : i < 1
    · obtain rfl : i = 0 := by omega
      obtain ⟨y1, y2⟩ := hB.walk
      have y3 := hB.lt
      replace ho := Lib.hid ho
      go_upto_region 4 with fail
      generalize wr = W9 at *
      go_loopw [13] (fun v13 wr => ∃ (k : Nat) (T : List (ByteArray × ByteArray)), v13 = .int .i64 k ∧ k ≤ n ∧ wr.ownsRow base 39 2 (.slice q n d) n (T.flatMap nmpC) ∧ Blk wr gb 31 #[.slice q n d] ∧ Ext w0 wr) (fun v13 _ => n - (intOf v13).toNat)
      case atStart => exact ⟨0, T, rfl, Nat.zero_le _, ho.out, hB, hE⟩
      case round =>
        clear ho hB hE y1 y2 y3
        obtain ⟨k, T, rfl, hk, ho, hB, hE⟩ := hrel
        by_cases hlt : k < n
        · obtain ⟨g, cap, hv, hg, hgl⟩ := ho.form (by omega)
          cases hv
          obtain ⟨x, hx⟩ := getD_some (own_lenV nmpC_len (by decide) ho) hlt
          have hgb : gb ≠ g := fun e => own_no ho hB (by decide) (by rw [e]; rfl)
          have c0 : wr.cell? ⟨g, k * 2, none⟩ = some (.string x.1) := own_cell nmpC_len ho hx 0 rfl hlt
          have c1 : wr.cell? ⟨g, k * 2 + 1, none⟩ = some (.string x.2) := own_cell nmpC_len ho hx 1 rfl hlt
          have z0 : ∀ o, wr.frozen? ⟨g, o, none⟩ = false := fun o => ho.frozenAt o
          have hs1 : (wr.setCell ⟨g, k * 2, none⟩ (.string spoiltV)).ownsRow base 39 2 (.slice (some ⟨g, 0, none⟩) n d) n ((T.set k (spoiltV, x.2)).flatMap nmpC) := own_set1 nmpC_len ho (spoiltV, x.2) hx 0 (by decide) (.string spoiltV) rfl
          have hx2 : (T.set k (spoiltV, x.2))[k]? = some (spoiltV, x.2) := by
            rw [List.getElem?_set_self]
            exact (List.getElem?_eq_some_iff.1 hx).1
          have hs2 : ((wr.setCell ⟨g, k * 2, none⟩ (.string spoiltV)).setCell ⟨g, k * 2 + 1, none⟩ (.string spoiltV)).ownsRow base 39 2 (.slice (some ⟨g, 0, none⟩) n d) n (((T.set k (spoiltV, x.2)).set k (spoiltV, spoiltV)).flatMap nmpC) := own_set1 nmpC_len hs1 (spoiltV, spoiltV) hx2 1 (by decide) (.string spoiltV) rfl
          have hE2 := (hE.setCell (p := ⟨g, k * 2, none⟩) (by simp only; omega) (.string spoiltV)).setCell (p := ⟨g, k * 2 + 1, none⟩) (by simp only; omega) (.string spoiltV)
          have hB2 := (hB.far (p := ⟨g, k * 2, none⟩) hgb (.string spoiltV)).far (p := ⟨g, k * 2 + 1, none⟩) hgb (.string spoiltV)
          have hkI : (k : Int) < n := by omega
          replace hs2 := Lib.hid hs2
          replace hB2 := Lib.hid hB2
          replace hx := Lib.hid hx
          clear ho hs1 hx2 hB
          go_wp2
          go_roundw
          case rel => exact ⟨k + 1, _, by go_num, by omega, hs2.out, hB2.out, hE2⟩
          case measure => simp [intOf]; omega
        · obtain rfl : k = n := by omega
          replace ho := Lib.hid ho
          replace hB := Lib.hid hB
          go_wp2
          go_roundw
          case rel => exact ⟨1, T, by go_num, by omega, ho.out, hB.out, hE⟩
          case measure => simp [intOf]
    · obtain rfl : i = 1 := by omega
      rw [show ((1 : Nat) : Int) = 1 from rfl]
      go_wp2
      refine bodyPost_end (results_none rfl _ _ _) rfl ?_
      exact ⟨rfl, hE⟩
theorem shB_zero {P : List PartV} (h : partsF P = 0) : shB P 0 = true := by
  unfold shB okUp
  rw [Bool.and_eq_true]
  refine ⟨inB_iff.2 (by omega), List.all_eq_true.2 fun x hx => ?_⟩
  have h3 := ((partsF_right h).2 x hx).2
  unfold rightP at h3
  simp only [Bool.and_eq_true] at h3
  rw [Int.add_zero, Int.add_zero]
  exact h3.1.1

set_option maxRecDepth 100000 in
set_option maxHeartbeats 25600000 in
theorem lawVS_any (B : Nat) (w : World) (p : Option Addr) (n c : Nat) (h : Lst w w.heap.size p n) (ht : Tab B w) :
    Calls Tryz.prog 4 #[.slice p n c] w fun e w' => e = .returned (.bool true) ∧ Ext w w' := by
  obtain ⟨xs, rfl, hL⟩ := lst_list h
  obtain ⟨L, hLd⟩ : ∃ L : Src, L = ⟨xs, w.heap.size⟩ := ⟨_, rfl⟩
  have hlow : L.low = w.heap.size := by rw [hLd]
  have hE0 : Ext w ((w.alloc (.cells #[.slice p xs.length c, .int .i64 0] 25)).alloc (.cells #[.slice p xs.length c, .int .i64 0] 25)) := ((Ext.refl w).alloc _).alloc _
  have hSa : StrL ((w.alloc (.cells #[.slice p xs.length c, .int .i64 0] 25)).alloc (.cells #[.slice p xs.length c, .int .i64 0] 25)) w.heap.size L 0 := by
    subst hLd
    exact ⟨Nat.le_refl _, p, c, (Blk.new' rfl).alloc _, hL.low fun j hj => hE0.block j hj⟩
  have hSb : StrL ((w.alloc (.cells #[.slice p xs.length c, .int .i64 0] 25)).alloc (.cells #[.slice p xs.length c, .int .i64 0] 25)) (w.heap.size + 1) L 0 := by
    subst hLd
    exact ⟨Nat.le_succ _, p, c, Blk.new' (by simp), hL.low fun j hj => hE0.block j hj⟩
  have hz0 : w.heap.size + 2 ≤ ((w.alloc (.cells #[.slice p xs.length c, .int .i64 0] 25)).alloc (.cells #[.slice p xs.length c, .int .i64 0] 25)).heap.size := by simp
  have hva := rightVoices_det w.heap.size 0 5 L _ (by omega) (by omega) hSa
  replace hva := Lib.hid hva
  replace hSb := Lib.hid hSb
  replace hz0 := Lib.hid hz0
  clear h hL hLd hSa
  go_enter Tryz.func4, Tryz.ntmps4
  go_upto_region 3 with (first
    | (go_at_call 5; go_loud ((with_reducible refine Calls.mono hva.out ?_); rintro e w1 ⟨xp, n1, xc, V, k1, rfl, hn1, hoX, hVl, hVs, hvF, hF1, hk1, hSa1, hE1⟩; have hSb1 := Lib.hid (hSb.out.other hE1 (by omega) (by omega)); have hX1 := ExtS.back hE0 (Nat.le_refl _) hE1; have hz1 := Nat.le_trans hz0.out hE1.2.2.2.1))
    | (go_at_call 5; (with_reducible refine Calls.mono (rightVoices_det (w.heap.size + 1) 0 5 L _ (by omega) (by omega) (by exact hSb1.out)) ?_); rintro e w2 ⟨yp, n2, yc, V2, k2, rfl, -, hoY, hVl2, -, -, hF2, -, hSb2, hE2⟩))
  obtain ⟨rfl, rfl⟩ : V2 = V ∧ k2 = k1 := by
    have e := hF2.symm.trans hF1
    exact ⟨congrArg Prod.fst e, congrArg Prod.snd e⟩
  subst hVl
  obtain rfl : n2 = V2.length := hVl2.symm
  have hz0 := hz0.out
  have hoX2 := own_extS hE2 (by omega) hoX
  have hX2 := ExtS.back hX1 (Nat.le_succ _) hE2
  have hSa2 := hSa1.other hE2 (by omega) (by omega)
  have hz2 := Nat.le_trans hz1 hE2.2.2.2.1
  clear hva hSb hSb1 hE1 hE2 hoX hSa1 hX1 hE0 hF1 hF2 hVl2
  have hpa := rightParts_det w.heap.size k2 L _ (by omega) hSa2
  replace hpa := Lib.hid hpa
  replace hSb2 := Lib.hid hSb2
  replace hoX2 := Lib.hid hoX2
  replace hoY := Lib.hid hoY
  clear hSa2
  go_upto_region 4 with (first
    | (go_at_call 6; (with_reducible refine Calls.mono hpa.out ?_); rintro e w3 ⟨pp, n3, pc, P, k3, rfl, hP3, hoP, hPl, hPs, hpF, hF3, hk3, hSa3, hE3⟩; have hSb3 := Lib.hid (hSb2.out.other hE3 (by omega) (by omega)); have hX3 := ExtS.back hX2 (Nat.le_refl _) hE3; have hz3 := Nat.le_trans hz2 hE3.2.2.2.1)
    | (go_at_call 6; (with_reducible refine Calls.mono (rightParts_det (w.heap.size + 1) k2 L _ (by omega) (by exact hSb3.out)) ?_); rintro e w4 ⟨qp, n4, qc, P2, k4, rfl, -, hoQ, hPl2, -, -, hF4, -, hSb4, hE4⟩))
  obtain ⟨rfl, rfl⟩ : P2 = P ∧ k4 = k3 := by
    have e := hF4.symm.trans hF3
    exact ⟨congrArg Prod.fst e, congrArg Prod.snd e⟩
  subst hPl
  obtain rfl : n4 = P2.length := hPl2.symm
  have hoX4 := own_extS hE4 (by omega) (own_extS hE3 (by omega) hoX2.out)
  have hoY4 := own_extS hE4 (by omega) (own_extS hE3 (by omega) hoY.out)
  have hoP4 := own_extS hE4 (by omega) hoP
  have hX4 := ExtS.back hX3 (Nat.le_succ _) hE4
  clear hpa hSb2 hSb3 hE3 hE4 hoX2 hoY hoP hSa3 hX2 hX3 hF3 hF4 hSb4 hPl2 hz0 hz1 hz2 hz3
  obtain ⟨xp', xc', e9, hV4⟩ := slc_of_own voiC_len hoX4 (by decide) (by omega)
  cases e9
  obtain ⟨yp', yc', e9, hY4⟩ := slc_of_own voiC_len hoY4 (by decide) (by omega)
  cases e9
  obtain ⟨pp', pc', e9, hP4⟩ := slc_of_own partC_len hoP4 (by decide) (by omega)
  cases e9
  obtain ⟨qp', qc', e9, hQ4⟩ := slc_of_own partC_len hoQ (by decide) (by omega)
  cases e9
  have hM : VpM w4 xp xc V2 pp pc P2 := ⟨hV4, hP4, hVs, fun x hx => (hPs x hx).1, by omega, by omega⟩
  have hmo : momB 60 = true := by decide
  have hL0 : errL V2 P2 60 = 0 := errL_zero.2 ⟨hvF, hpF, hmo⟩
  have hz : errV V2 P2 60 = 0 := by
    unfold errV
    rw [if_pos hL0, if_pos ⟨by have := singers_len V2 60; omega, by omega⟩]
  have c1 : ∀ u, Ext w4 u → Calls Tryz.prog 16 #[.slice pp P2.length pc, .int .i64 0] u fun e w' => ∃ v : Value, e = .returned (.tuple #[v, .int .i64 0]) ∧ w'.ownsRow u.heap.size 46 5 v P2.length ((P2.map (PartV.up · 0)).flatMap partC) ∧ Ext u w' := fun u hu =>
    (shiftedV_any pp P2.length pc P2 0 u (hP4.ext hu) (by omega) (fun x hx => (hPs x hx).1) (by omega)).mono fun e w' ⟨v, he, ho, _, hE⟩ => ⟨v, by rw [he, if_pos hpF, if_pos (shB_zero hpF)], ho ⟨hpF, shB_zero hpF⟩, hE⟩
  have c2 := fun u (hu : Ext w4 u) => who_own xp xc V2 60 50 55 u (hV4.ext hu) hVs (by omega) hvF (by decide) hmo (by omega) (by omega)
  have c3 : ∀ u, Ext w4 u → Calls Tryz.prog 8 #[.slice xp V2.length xc, .slice pp P2.length pc, .int .i64 60] u fun e w' => ∃ (q : Option Addr) (n d : Nat) (T : List (ByteArray × ByteArray)) (s : Int) (is : Bool), e = .returned (.tuple #[.slice q n d, .int .i64 s, .bool is, .int .i64 0]) ∧ w'.ownsRow u.heap.size 39 2 (.slice q n d) n (T.flatMap nmpC) ∧ n ≤ 1000 ∧ Ext u w' := fun u hu => by
    by_cases hf : fromF P2 (comL V2 60 P2) [0, 0, 0, 0] = -1
    · exact (divide_none (hM.more hu) 60 hz hf).mono fun e w' ⟨he, hE⟩ => ⟨none, 0, 0, [], 0, false, he, World.ownsRow_nil _ _ _ _, by omega, hE⟩
    · refine (divide_own (hM.more hu) 60 hz hf).mono fun e w' ⟨q, d, he, ho, hE⟩ => ⟨q, _, d, _, _, true, he, ho, ?_, hE⟩
      have h1 := divN_len' (S := singersL V2 60) hf (comL_len V2 60 P2)
      rw [comL_len] at h1
      have := singers_len V2 60
      omega
  have c4 := fun u (hu : Ext w4 u) => short_own (hM.more hu) 60 hL0 (by omega)
  have htw : ∀ u, Ext w4 u → Tab B u := fun u hu => ht.ext (hX4.trans hu)
  have hv9 : V2.length ≤ 100000 := by omega
  have hp9 : P2.length ≤ 100000 := by omega
  have hAl : ∀ M, WhoR V2 60 (50, 55) M → M.length ≤ 1000 := fun M hM => by
    rw [hM.1.length_eq]
    exact Nat.le_trans (ableL_len _ _ _) (Nat.le_trans (singers_len V2 60) (by omega))
  replace hV4 := Lib.hid hV4
  replace hY4 := Lib.hid hY4
  replace hP4 := Lib.hid hP4
  replace hQ4 := Lib.hid hQ4
  replace c1 := Lib.hid c1
  replace c2 := Lib.hid c2
  replace c3 := Lib.hid c3
  replace c4 := Lib.hid c4
  replace htw := Lib.hid htw
  replace hAl := Lib.hid hAl
  clear hM hmo hL0 hz hoX4 hoY4 hoP4 hoQ hVs hPs hvF hpF
  go_upto_region 10 with (first
    | (go_at_call 16; go_loud ((with_reducible refine Calls.mono (c1.out _ (by exact Ext.refl _)) ?_); rintro e w5 ⟨v5, rfl, ho5, hb5⟩; obtain ⟨q5, d5, rfl, -⟩ := slc_of_own partC_len ho5 (by decide) (by omega); replace ho5 := Lib.hid ho5))
    | (go_at_call 17; (with_reducible refine Calls.mono (c2.out _ hb5) ?_); rintro e w6 ⟨q6, d6, M6, rfl, hM6, ho6, hb6⟩; replace ho6 := Lib.hid ho6; have E6 := hb5.trans hb6)
    | (go_at_call 8; (with_reducible refine Calls.mono (c3.out _ E6) ?_); rintro e w7 ⟨q7, n7, d7, T7, s7, is7, rfl, ho7, hn7, hb7⟩; replace ho7 := Lib.hid ho7; have E7 := E6.trans hb7)
    | (go_at_call 18; (with_reducible refine Calls.mono (c4.out _ E7) ?_); rintro e w8 ⟨q8, n8, d8, rfl, ho8, hl8, hn8, hb8⟩; replace ho8 := Lib.hid ho8; have E8 := E7.trans hb8))
  have hm6 := hAl.out M6 hM6
  have o5 := own_ext ((hb6.trans hb7).trans hb8) ho5.out
  have o6 := own_lowV (own_ext (hb7.trans hb8) ho6.out) hb5.size
  have o7 := own_lowV (own_ext hb8 ho7.out) E6.size
  have o8 := own_lowV ho8.out E7.size
  generalize P2.map (PartV.up · 0) = Z5 at *
  generalize shortV V2 P2 60 = Z8 at *
  clear c1 c2 c3 c4 hAl hM6 ho5 ho6 ho7 ho8 hb5 hb6 hb7 hb8 E6 E7
  go_wp2
  go_loopw [77] (fun v77 wr => ∃ (k : Nat) (T : List PartV), v77 = .int .i64 k ∧ k ≤ P2.length ∧ wr.ownsRow w4.heap.size 46 5 (.slice q5 P2.length d5) P2.length (T.flatMap partC) ∧ wr.ownsRow w4.heap.size 67 2 (.slice q6 M6.length d6) M6.length (M6.flatMap ableC) ∧ wr.ownsRow w4.heap.size 39 2 (.slice q7 n7 d7) n7 (T7.flatMap nmpC) ∧ wr.ownsRow w4.heap.size 9 1 (.slice q8 n8 d8) n8 (Z8.flatMap strC) ∧ Ext w4 wr) (fun v77 _ => P2.length - (intOf v77).toNat)
  case atStart => exact ⟨0, Z5, rfl, Nat.zero_le _, o5, o6, o7, o8, E8⟩
  case round =>
    clear o5 o6 o7 o8 E8
    obtain ⟨k, T, rfl, hk, o5, o6, o7, o8, hE⟩ := hrel
    by_cases hlt : k < P2.length
    · obtain ⟨g, cap, hv, hg, hgl⟩ := o5.form (by omega)
      cases hv
      obtain ⟨x, hx⟩ := getD_some (own_lenV partC_len (by decide) o5) hlt
      have c0 : wr.cell? ⟨g, k * 5, none⟩ = some (.string x.name) := own_cell partC_len o5 hx 0 rfl hlt
      have z0 : ∀ o, wr.frozen? ⟨g, o, none⟩ = false := fun o => o5.frozenAt o
      have hset : (wr.setCell ⟨g, k * 5, none⟩ (.string spoiltV)).ownsRow w4.heap.size 46 5 (.slice (some ⟨g, 0, none⟩) P2.length d5) P2.length ((T.set k ⟨spoiltV, x.lo, x.hi, x.least, x.most⟩).flatMap partC) := own_set1 partC_len o5 ⟨spoiltV, x.lo, x.hi, x.least, x.most⟩ hx 0 (by decide) (.string spoiltV) rfl
      have hE2 := hE.setCell (p := ⟨g, k * 5, none⟩) hg (.string spoiltV)
      have p6 := own_setT o6 o5 (by decide) (k * 5) (.string spoiltV)
      have p7 := own_setT o7 o5 (by decide) (k * 5) (.string spoiltV)
      have p8 := own_setT o8 o5 (by decide) (k * 5) (.string spoiltV)
      have hkI : (k : Int) < P2.length := by omega
      replace hset := Lib.hid hset
      replace p6 := Lib.hid p6
      replace p7 := Lib.hid p7
      replace p8 := Lib.hid p8
      replace hx := Lib.hid hx
      clear o5 o6 o7 o8
      go_wp2
      go_roundw
      case rel => exact ⟨k + 1, _, by go_num, by omega, hset.out, p6.out, p7.out, p8.out, hE2⟩
      case measure => simp [intOf]; omega
    obtain rfl : k = P2.length := by omega
    clear o5
    replace o6 := Lib.hid o6
    replace o7 := Lib.hid o7
    replace o8 := Lib.hid o8
    generalize wr = W5 at *
    go_wp2
    go_loopw [87] (fun v87 wr => ∃ (k : Nat) (T : List AbleV), v87 = .int .i64 k ∧ k ≤ M6.length ∧ wr.ownsRow w4.heap.size 67 2 (.slice q6 M6.length d6) M6.length (T.flatMap ableC) ∧ wr.ownsRow w4.heap.size 39 2 (.slice q7 n7 d7) n7 (T7.flatMap nmpC) ∧ wr.ownsRow w4.heap.size 9 1 (.slice q8 n8 d8) n8 (Z8.flatMap strC) ∧ Ext w4 wr) (fun v87 _ => M6.length - (intOf v87).toNat)
    case atStart => exact ⟨0, M6, rfl, Nat.zero_le _, o6.out, o7.out, o8.out, hE⟩
    case round =>
      clear o6 o7 o8 hE
      obtain ⟨k, T, rfl, hk, o6, o7, o8, hE⟩ := hrel
      by_cases hlt : k < M6.length
      · obtain ⟨g, cap, hv, hg, hgl⟩ := o6.form (by omega)
        cases hv
        obtain ⟨x, hx⟩ := getD_some (own_lenV ableC_len (by decide) o6) hlt
        have c0 : wr.cell? ⟨g, k * 2, none⟩ = some (.string x.name) := own_cell ableC_len o6 hx 0 rfl hlt
        have z0 : ∀ o, wr.frozen? ⟨g, o, none⟩ = false := fun o => o6.frozenAt o
        have hset : (wr.setCell ⟨g, k * 2, none⟩ (.string spoiltV)).ownsRow w4.heap.size 67 2 (.slice (some ⟨g, 0, none⟩) M6.length d6) M6.length ((T.set k ⟨spoiltV, x.com⟩).flatMap ableC) := own_set1 ableC_len o6 ⟨spoiltV, x.com⟩ hx 0 (by decide) (.string spoiltV) rfl
        have hE2 := hE.setCell (p := ⟨g, k * 2, none⟩) hg (.string spoiltV)
        have p7 := own_setT o7 o6 (by decide) (k * 2) (.string spoiltV)
        have p8 := own_setT o8 o6 (by decide) (k * 2) (.string spoiltV)
        have hkI : (k : Int) < M6.length := by omega
        replace hset := Lib.hid hset
        replace p7 := Lib.hid p7
        replace p8 := Lib.hid p8
        replace hx := Lib.hid hx
        clear o6 o7 o8
        go_wp2
        go_roundw
        case rel => exact ⟨k + 1, _, by go_num, by omega, hset.out, p7.out, p8.out, hE2⟩
        case measure => simp [intOf]; omega
      obtain rfl : k = M6.length := by omega
      clear o6
      replace o7 := Lib.hid o7
      replace o8 := Lib.hid o8
      generalize wr = W6 at *
      go_wp2
      go_loopw [97] (fun v97 wr => ∃ (k : Nat) (T : List ByteArray), v97 = .int .i64 k ∧ k ≤ n8 ∧ wr.ownsRow w4.heap.size 39 2 (.slice q7 n7 d7) n7 (T7.flatMap nmpC) ∧ wr.ownsRow w4.heap.size 9 1 (.slice q8 n8 d8) n8 (T.flatMap strC) ∧ Ext w4 wr) (fun v97 _ => n8 - (intOf v97).toNat)
      case atStart => exact ⟨0, Z8, rfl, Nat.zero_le _, o7.out, o8.out, hE⟩
      case round =>
        clear o7 o8 hE
        obtain ⟨k, T, rfl, hk, o7, o8, hE⟩ := hrel
        by_cases hlt : k < n8
        · obtain ⟨g, cap, hv, hg, hgl⟩ := o8.form (by omega)
          cases hv
          obtain ⟨x, hx⟩ := getD_some (own_lenV (enc := strC) (fun _ => rfl) (by decide) o8) hlt
          have c0 : wr.cell? ⟨g, k, none⟩ = some (.string x) := by have := own_cell (enc := strC) (fun _ => rfl) o8 hx 0 rfl hlt; simpa using this
          have z0 : ∀ o, wr.frozen? ⟨g, o, none⟩ = false := fun o => o8.frozenAt o
          have hset : (wr.setCell ⟨g, k, none⟩ (.string spoiltV)).ownsRow w4.heap.size 9 1 (.slice (some ⟨g, 0, none⟩) n8 d8) n8 ((T.set k spoiltV).flatMap strC) := by
            have := own_set1 (enc := strC) (fun _ => rfl) o8 spoiltV hx 0 (by decide) (.string spoiltV) rfl
            simpa using this
          have hE2 := hE.setCell (p := ⟨g, k, none⟩) hg (.string spoiltV)
          have p7 := own_setT o7 o8 (by decide) k (.string spoiltV)
          have hkI : (k : Int) < n8 := by omega
          replace hset := Lib.hid hset
          replace p7 := Lib.hid p7
          replace hx := Lib.hid hx
          clear o7 o8
          go_wp2
          go_roundw
          case rel => exact ⟨k + 1, _, by go_num, by omega, p7.out, hset.out, hE2⟩
          case measure => simp [intOf]; omega
        obtain rfl : k = n8 := by omega
        clear o8
        have hsp := fun u gb (hb : Blk u gb 31 #[.slice q7 n7 d7]) (ho : u.ownsRow w4.heap.size 39 2 (.slice q7 n7 d7) n7 (T7.flatMap nmpC)) (he : Ext w4 u) => spoil1_any q7 n7 d7 gb w4.heap.size T7 w4 u hb ho he (Nat.le_refl _) hn7
        have o7a := o7.alloc (.cells #[.slice q7 n7 d7] 31)
        have hEa := hE.alloc (.cells #[.slice q7 n7 d7] 31)
        replace hsp := Lib.hid hsp
        replace o7a := Lib.hid o7a
        clear o7
        go_wp2_with (first
          | (go_at_call 19; go_loud ((with_reducible refine Calls.mono (hsp.out _ _ (by exact Blk.new' rfl) o7a.out hEa) ?_); rintro e u1 ⟨rfl, hu1⟩))
          | (go_at_call 20; go_loud ((with_reducible refine Calls.mono (eqVoiD_any _ _ _ _ _ _ _ (hV4.out.ext hu1) (hY4.out.ext hu1) hv9) ?_); rintro e u2 ⟨rfl, hu2⟩; have U2 := hu1.trans hu2))
          | (go_at_call 21; go_loud ((with_reducible refine Calls.mono (eqPartD_any _ _ _ _ _ _ _ (hP4.out.ext U2) (hQ4.out.ext U2) hp9) ?_); rintro e u3 ⟨rfl, hu3⟩; have U3 := U2.trans hu3))
          | (go_at_call 22; go_loud ((with_reducible refine Calls.mono (ready_any B _ (htw.out _ U3)) ?_); rintro e u4 ⟨rfl, hu4⟩)))
        go_ret
        exact ⟨rfl, hX4.trans (U3.trans hu4)⟩
end Go.Proofs.YtdehmioobkneiaaGreatDoor
