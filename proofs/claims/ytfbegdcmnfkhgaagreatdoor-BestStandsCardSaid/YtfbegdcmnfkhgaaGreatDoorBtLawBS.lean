/- The law of the best stands: it answers true. Conditions: the argument is a list of ints that lies in memory. -/
import Derived.Test.YtfbegdcmnfkhgaaGreatDoorBtBeN
import Derived.Test.YtfbegdcmnfkhgaaGreatDoorBtBeO
import Derived.Test.YtfbegdcmnfkhgaaGreatDoorBtStX
import Derived.Test.YtfbegdcmnfkhgaaGreatDoorBtJ39
import Derived.Test.YtfbegdcmnfkhgaaGreatDoorBtJ26
import Derived.Test.YtfbegdcmnfkhgaaGreatDoorBtJ22
import Derived.Test.YtfbegdcmnfkhgaaGreatDoorBtJ38
import Derived.Deep.DeepCutAuto
set_option linter.unusedSimpArgs false
set_option linter.unusedVariables false
namespace Go.Proofs.YtfbegdcmnfkhgaaGreatDoor
open Go Go.RowKit

/-- A stage in a cell block, its rows apart from it. -/
def StgC (s gB : Nat) (w' : World) : Prop := ∃ (wp : Option Addr) (wcap : Nat) (wide : List Int) (hp : Option Addr) (hc : Nat) (high : List Int), Blk w' gB 29 #[.slice wp wide.length wcap, .slice hp high.length hc] ∧ Slc 1 intC w' wp wide.length wcap wide ∧ Slc 1 intC w' hp high.length hc high ∧ SmallL wide ∧ SmallL high ∧ wide.length ≤ 4 ∧ high.length ≤ 4 ∧ (∀ a, wp = some a → a.block ≠ s) ∧ (∀ a, hp = some a → a.block ≠ s)
/-- People and a stage in memory. -/
def PplC (gB : Nat) (v : Value) (w' : World) : Prop := ∃ (pp : Option Addr) (pc : Nat) (P : List PersonV) (wp : Option Addr) (wcap : Nat) (wide : List Int) (hp : Option Addr) (hc : Nat) (high : List Int), v = .slice pp P.length pc ∧ P.length ≤ 12 ∧ wide.length ≤ 4 ∧ high.length ≤ 4 ∧ Blk w' gB 29 #[.slice wp wide.length wcap, .slice hp high.length hc] ∧ PsM w' pp pc P wp wcap wide hp hc high none 0 []

set_option maxRecDepth 100000 in
set_option maxHeartbeats 25600000 in
theorem lawBS_any (w : World) (p : Option Addr) (n c : Nat) (h : Lst w w.heap.size p n) :
    Calls Tryz.prog 3 #[.slice p n c] w fun e w' => e = .returned (.bool true) ∧ Ext w w' := by
  have hS0 : Str (w.alloc (.cells #[.slice p n c, .int .i64 0] 25)) w.heap.size 0 := ⟨p, n, c, 0, Nat.le_refl _, Blk.new' rfl, h.low fun j hj => Below.heap_alloc w _ j hj⟩
  have hE0 : Ext w (w.alloc (.cells #[.slice p n c, .int .i64 0] 25)) := (Ext.refl w).alloc _
  have hbk : ∀ u, ExtS w.heap.size (w.alloc (.cells #[.slice p n c, .int .i64 0] 25)) u → Ext w u := fun u hu => ExtS.back hE0 (Nat.le_refl _) hu
  replace hbk := Lib.hid hbk
  have hpe := people_any w.heap.size 0 4 _ (by omega) (by omega) hS0
  replace hpe := Lib.hid hpe
  clear h
  go_enter Tryz.func3, Tryz.ntmps3
  go_upto_region 3 with (first
    | (go_at_call 7; (with_reducible refine Calls.mono hpe.out ?_); rintro e w1 ⟨pp, n, pc, P, rfl, hn9, hP, hpf, hPs, hS1, hE1⟩; obtain rfl : n = P.length := (slcC hP).1)
    | (go_at_call 8; (with_reducible refine Calls.mono (stageOf_any w.heap.size (0 + 40) _ (by omega) (by exact hS1)) ?_); rintro e w2 ⟨wp, wc, hp, hc, wide, high, rfl, hw4, hh4, hws, hhs, hW, hH, hwf, hhf, hS2, hE2⟩))
  have hpf2 : ∀ a, pp = some a → a.block ≠ w.heap.size := fun a ha e => by have := hpf a ha; simp at this; omega
  have hwf2 : ∀ a, wp = some a → a.block ≠ w.heap.size := fun a ha e => by have := hwf a ha; have := hE1.2.2.2.1; simp at this; omega
  have hhf2 : ∀ a, hp = some a → a.block ≠ w.heap.size := fun a ha e => by have := hhf a ha; have := hE1.2.2.2.1; simp at this; omega
  have hEa : Ext w2 (w2.alloc (.cells #[.slice wp wide.length wc, .slice hp high.length hc] 29)) := (Ext.refl _).alloc _
  have hB : Blk (w2.alloc (.cells #[.slice wp wide.length wc, .slice hp high.length hc] 29)) w2.heap.size 29 #[.slice wp wide.length wc, .slice hp high.length hc] := Blk.new' rfl
  have hP2 := (hP.extS hE2 hpf2).ext hEa
  have hW2 := hW.ext hEa
  have hH2 := hH.ext hEa
  have hSW := hS2.ext hEa
  have hEW := (hE1.trans hE2).ext hEa
  have hgb : w.heap.size < w2.heap.size := by have := hE1.2.2.2.1; have := hE2.2.2.2.1; simp at *; omega
  have hpg : ∀ a, pp = some a → a.block ≠ w2.heap.size := fun a ha e => by
    rcases (slcC (hP.extS hE2 hpf2)).2 with ⟨e2, -⟩ | ⟨b, off, e2, hb, -⟩ <;> rw [e2] at ha <;> cases ha
    simp at e; omega
  have hwg : ∀ a, wp = some a → a.block ≠ w2.heap.size := fun a ha e => by
    rcases (slcC hW).2 with ⟨e2, -⟩ | ⟨b, off, e2, hb, -⟩ <;> rw [e2] at ha <;> cases ha
    simp at e; omega
  have hhg : ∀ a, hp = some a → a.block ≠ w2.heap.size := fun a ha e => by
    rcases (slcC hH).2 with ⟨e2, -⟩ | ⟨b, off, e2, hb, -⟩ <;> rw [e2] at ha <;> cases ha
    simp at e; omega
  clear hpe hS0 hE0 hS1 hE1 hP hE2 hS2 hW hH hwf hhf hpf hEa
  generalize w2.alloc (.cells #[.slice wp wide.length wc, .slice hp high.length hc] 29) = W at *
  generalize w2.heap.size = gB at *
  obtain ⟨b0, -⟩ := hB.walk
  have bl := hB.lt
  replace hP2 := Lib.hid hP2
  replace hPs := Lib.hid hPs
  go_upto_if 22 with fail
  go_cut [] (fun w' => StgC w.heap.size gB w' ∧ Slc 3 perC w' pp P.length pc P ∧ Str w' w.heap.size (0 + 40 + 40) ∧ ExtS w.heap.size (w.alloc (.cells #[.slice p n c, .int .i64 0] 25)) w')
  case first =>
    replace hws := Lib.hid hws
    replace hhs := Lib.hid hhs
    by_cases h2 : 2 < wide.length
    · have h2I : (2 : Int) < wide.length := by omega
      have hcw := hW2.2.1
      have hch := hH2.2.1
      obtain ⟨m, hm⟩ : ∃ m : Nat, m = min 2 high.length := ⟨_, rfl⟩
      have hmn : min (2 : Int) (high.length : Int) = (m : Int) := by omega
      have hml : m ≤ high.length := by omega
      have hmc : m ≤ hc := by omega
      have hl2 : (wide.take 2).length = 2 := by rw [List.length_take]; omega
      have hlm : (high.take m).length = m := by rw [List.length_take]; omega
      have hW3 := hW2.takeZ (show 2 ≤ wide.length by omega)
      have hH3 := hH2.takeZ hml
      clear hm
      replace hl2 := Lib.hid hl2
      replace hlm := Lib.hid hlm
      replace hW3 := Lib.hid hW3
      replace hH3 := Lib.hid hH3
      clear hW2 hH2
      go_upto_region 4 with fail
      refine wp_region_facts [7, 8, 9] [([], false, false), ([0], false, false), ([0, 1], false, false), ([], false, false), ([3], false, false), ([], false, false), ([5], false, false), ([5, 6], false, false), ([5, 6, 7], false, false), ([3, 4, 5, 6, 7, 8], false, false), ([], false, false)] (Ext) Ext (fun _ => True) (by kernel_rfl) (by kernel_rfl) Ext.refl (fun _ _ _ => Ext.trans) (fun _ _ h => h) (fun _ _ h => h.size) (fun _ _ h _ => h) trivial ?_
      dsimp only [List.length_cons, List.length_nil, List.drop_succ_cons, List.drop_zero, List.drop_nil]
      refine fac_quiet 0 rfl rfl rfl (fun _ _ h _ => h) rfl rfl ?_
      apply Exists.intro
      refine ⟨fun sv w' hw' hfa => ?_, ?_⟩
      · refine ⟨rfl, ?_⟩
        simp only [putsL]
        change quietTo _ _ _ _ (Sem.run _ (execOp (Act.eval _) _) _)
        try simp only [Act.put, List.setIfInBounds_toArray, List.set_cons_succ, List.set_cons_zero]
        simp [go_sem, quietTo, Ext.refl]
        all_goals first
          | rfl
      refine fac_quiet 1 rfl rfl rfl (fun _ _ h _ => h) rfl rfl ?_
      apply Exists.intro
      refine ⟨fun sv w' hw' hfa => ?_, ?_⟩
      · obtain ⟨f0, -⟩ := hfa
        replace f0 : sv 0 = _ := f0
        try dsimp only at f0
        obtain ⟨y1, -⟩ := (hB.ext ((Ext.refl W).drew.trans hw')).walk
        refine ⟨rfl, ?_⟩
        simp only [putsL]
        change quietTo _ _ _ _ (Sem.run _ (execOp (Act.eval (Act.put _ (some 23) (sv 0))) _) _)
        try simp only [Act.put, List.setIfInBounds_toArray, List.set_cons_succ, List.set_cons_zero]
        simp [go_sem, quietTo, Ext.refl, ↓IntWalk.iteOmega, f0, y1]
        all_goals try simp (disch := omega) only [IntWalk.i64_in]
        all_goals first
          | rfl
      refine fac_quiet 2 rfl rfl rfl (fun _ _ h _ => h) rfl rfl ?_
      apply Exists.intro
      refine ⟨fun sv w' hw' hfa => ?_, ?_⟩
      · obtain ⟨_, f1, -⟩ := hfa
        replace f1 : sv 1 = _ := f1
        try dsimp only at f1
        refine ⟨rfl, ?_⟩
        simp only [putsL]
        change quietTo _ _ _ _ (Sem.run _ (execOp (Act.eval (Act.put (Act.put _ (some 24) (sv 1)) (some 23) (sv 0))) _) _)
        try simp only [Act.put, List.setIfInBounds_toArray, List.set_cons_succ, List.set_cons_zero]
        simp [go_sem, quietTo, Ext.refl, ↓IntWalk.iteOmega, f1]
        all_goals try simp (disch := omega) only [IntWalk.i64_in]
        all_goals first
          | rfl
      refine fac_quiet 3 rfl rfl rfl (fun _ _ h _ => h) rfl rfl ?_
      apply Exists.intro
      refine ⟨fun sv w' hw' hfa => ?_, ?_⟩
      · refine ⟨rfl, ?_⟩
        simp only [putsL]
        change quietTo _ _ _ _ (Sem.run _ (execOp (Act.eval _) _) _)
        try simp only [Act.put, List.setIfInBounds_toArray, List.set_cons_succ, List.set_cons_zero]
        simp [go_sem, quietTo, Ext.refl]
        all_goals first
          | rfl
      refine fac_quiet 4 rfl rfl rfl (fun _ _ h _ => h) rfl rfl ?_
      apply Exists.intro
      refine ⟨fun sv w' hw' hfa => ?_, ?_⟩
      · obtain ⟨f3, -⟩ := hfa
        replace f3 : sv 3 = _ := f3
        try dsimp only at f3
        obtain ⟨y1, -⟩ := (hB.ext ((Ext.refl W).drew.trans hw')).walk
        refine ⟨rfl, ?_⟩
        simp only [putsL]
        change quietTo _ _ _ _ (Sem.run _ (execOp (Act.eval (Act.put _ (some 26) (sv 3))) _) _)
        try simp only [Act.put, List.setIfInBounds_toArray, List.set_cons_succ, List.set_cons_zero]
        simp [go_sem, quietTo, Ext.refl, ↓IntWalk.iteOmega, f3, y1]
        all_goals try simp (disch := omega) only [IntWalk.i64_in]
        all_goals first
          | rfl
      refine fac_quiet 5 rfl rfl rfl (fun _ _ h _ => h) rfl rfl ?_
      apply Exists.intro
      refine ⟨fun sv w' hw' hfa => ?_, ?_⟩
      · refine ⟨rfl, ?_⟩
        simp only [putsL]
        change quietTo _ _ _ _ (Sem.run _ (execOp (Act.eval _) _) _)
        try simp only [Act.put, List.setIfInBounds_toArray, List.set_cons_succ, List.set_cons_zero]
        simp [go_sem, quietTo, Ext.refl]
        all_goals first
          | rfl
      refine fac_quiet 6 rfl rfl rfl (fun _ _ h _ => h) rfl rfl ?_
      apply Exists.intro
      refine ⟨fun sv w' hw' hfa => ?_, ?_⟩
      · obtain ⟨f5, -⟩ := hfa
        replace f5 : sv 5 = _ := f5
        try dsimp only at f5
        obtain ⟨y1, -⟩ := (hB.ext ((Ext.refl W).drew.trans hw')).walk
        refine ⟨rfl, ?_⟩
        simp only [putsL]
        change quietTo _ _ _ _ (Sem.run _ (execOp (Act.eval (Act.put _ (some 28) (sv 5))) _) _)
        try simp only [Act.put, List.setIfInBounds_toArray, List.set_cons_succ, List.set_cons_zero]
        simp [go_sem, quietTo, Ext.refl, ↓IntWalk.iteOmega, f5, y1]
        all_goals try simp (disch := omega) only [IntWalk.i64_in]
        all_goals first
          | rfl
      refine fac_late 7 rfl rfl Ext.refl (fun _ _ h _ => h) rfl rfl (fun _ _ _ _ h => h) ?_
      apply Exists.intro
      refine ⟨fun sv w' hw' hfa => ?_, ?_⟩
      · obtain ⟨_, f6, -⟩ := hfa
        replace f6 : sv 6 = _ := f6
        try dsimp only at f6
        refine ⟨rfl, fun w2 => ?_⟩
        simp only [putsL]
        change pureTo _ _ (Sem.run _ (execOp (Act.eval (Act.put (Act.put _ (some 29) (sv 6)) (some 28) (sv 5))) _) _)
        try simp only [Act.put, List.setIfInBounds_toArray, List.set_cons_succ, List.set_cons_zero]
        simp [go_sem, pureTo, ↓IntWalk.iteOmega, f6]
        all_goals try simp (disch := omega) only [IntWalk.i64_in]
        all_goals first
          | rfl
      refine fac_late 8 rfl rfl Ext.refl (fun _ _ h _ => h) rfl rfl (fun _ _ _ _ h => h) ?_
      apply Exists.intro
      refine ⟨fun sv w' hw' hfa => ?_, ?_⟩
      · obtain ⟨_, _, f7, -⟩ := hfa
        replace f7 : sv 7 = _ := f7
        try dsimp only at f7
        refine ⟨rfl, fun w2 => ?_⟩
        simp only [putsL]
        change pureTo _ _ (Sem.run _ (execOp (Act.eval (Act.put (Act.put (Act.put _ (some 30) (sv 7)) (some 29) (sv 6)) (some 28) (sv 5))) _) _)
        try simp only [Act.put, List.setIfInBounds_toArray, List.set_cons_succ, List.set_cons_zero]
        simp [go_sem, pureTo, ↓IntWalk.iteOmega, f7, hmn]
        all_goals try simp (disch := omega) only [IntWalk.i64_in]
        all_goals first
          | rfl
      refine fac_late 9 rfl rfl Ext.refl (fun _ _ h _ => h) rfl rfl (fun _ _ _ _ h => h) ?_
      apply Exists.intro
      refine ⟨fun sv w' hw' hfa => ?_, ?_⟩
      · obtain ⟨_, f4, _, _, _, f8, -⟩ := hfa
        replace f4 : sv 4 = _ := f4
        try dsimp only at f4
        replace f8 : sv 8 = _ := f8
        try dsimp only at f8
        refine ⟨rfl, fun w2 => ?_⟩
        simp only [putsL]
        change pureTo _ _ (Sem.run _ (execOp (Act.eval (Act.put (Act.put (Act.put (Act.put (Act.put (Act.put _ (some 31) (sv 8)) (some 30) (sv 7)) (some 29) (sv 6)) (some 28) (sv 5)) (some 27) (sv 4)) (some 26) (sv 3))) _) _)
        try simp only [Act.put, List.setIfInBounds_toArray, List.set_cons_succ, List.set_cons_zero]
        simp [go_sem, pureTo, ↓IntWalk.iteOmega, f4, f8]
        all_goals try simp (disch := omega) only [IntWalk.i64_in]
        all_goals first
          | rfl
      refine fac_quiet 10 rfl rfl rfl (fun _ _ h _ => h) rfl rfl ?_
      apply Exists.intro
      refine ⟨fun sv w' hw' hfa => ?_, ?_⟩
      · refine ⟨rfl, ?_⟩
        simp only [putsL]
        change quietTo _ _ _ _ (Sem.run _ (execOp (Act.eval _) _) _)
        try simp only [Act.put, List.setIfInBounds_toArray, List.set_cons_succ, List.set_cons_zero]
        simp [go_sem, quietTo, Ext.refl]
        all_goals first
          | rfl
      refine fac_nil fun xq wrq herq hfrq hcrq holdq hapq => ?_
      obtain ⟨f0, f1, f2, f3, f4, f5, f6, f7, f8, f9, f10, -⟩ := hfrq
      replace f0 : xq 0 = _ := f0
      try dsimp only at f0
      replace f1 : xq 1 = _ := f1
      try dsimp only at f1
      replace f2 : xq 2 = _ := f2
      try dsimp only at f2
      replace f3 : xq 3 = _ := f3
      try dsimp only at f3
      replace f4 : xq 4 = _ := f4
      try dsimp only at f4
      replace f5 : xq 5 = _ := f5
      try dsimp only at f5
      replace f6 : xq 6 = _ := f6
      try dsimp only at f6
      replace f7 : xq 7 = _ := f7
      try dsimp only at f7
      replace f8 : xq 8 = _ := f8
      try dsimp only at f8
      replace f9 : xq 9 = _ := f9
      try dsimp only at f9
      replace f10 : xq 10 = _ := f10
      try dsimp only at f10
      change wpList _ _ _ _ (Act.put (Act.put (Act.put (Act.put (Act.put (Act.put (Act.put (Act.put (Act.put (Act.put (Act.put _ (some 23) (xq 0)) (some 24) (xq 1)) (some 25) (xq 2)) (some 26) (xq 3)) (some 27) (xq 4)) (some 28) (xq 5)) (some 29) (xq 6)) (some 30) (xq 7)) (some 31) (xq 8)) (some 32) (xq 9)) (some 33) (xq 10)) _
      simp only [putsL, Nat.reduceAdd, List.drop_succ_cons, List.drop_zero, List.drop_nil, Act.put, List.setIfInBounds_toArray, List.set_cons_succ, List.set_cons_zero]
      try simp only [f0, f1, f2, f3, f4, f5, f6, f7, f8, f9, f10]
      clear f0 f1 f2 f3 f4 f5 f6 f7 f8 f9 f10
      clear holdq hapq
      have hkq := (Ext.refl W).drew.trans herq
      have hBq := hB.ext hkq
      obtain ⟨z0, z1⟩ := hBq.walk
      have zl := hBq.lt
      clear b0 bl
      go_wp2
      go_meet
      have hG : ExtS gB wrq ((wrq.setCell ⟨gB, 0, none⟩ (.slice wp 2 wc)).setCell ⟨gB, 1, none⟩ (.slice hp m hc)) := ((ExtS.refl _ _).setCell (p := ⟨gB, 0, none⟩) (.inl rfl) _).setCell (p := ⟨gB, 1, none⟩) (.inl rfl) _
      refine ⟨⟨wp, wc, wide.take 2, hp, hc, high.take m, ?_, ?_, ?_, smallTake hws.out _, smallTake hhs.out _, by rw [hl2.out]; omega, by rw [hlm.out]; omega, hwf2, hhf2⟩, ?_, ?_, ?_⟩
      · rw [hl2.out, hlm.out]
        exact ((hBq.set_ 0 (.slice wp 2 wc)).set_ 1 (.slice hp m hc)).cast (by simp)
      · rw [hl2.out]
        exact (hW3.out.ext hkq).extS hG hwg
      · rw [hlm.out]
        exact (hH3.out.ext hkq).extS hG hhg
      · exact (hP2.out.ext hkq).extS hG hpg
      · exact ((hSW.ext hkq).set (p := ⟨gB, 0, none⟩) hgb _).set (p := ⟨gB, 1, none⟩) hgb _
      · exact ((hEW.ext hkq).setCell (p := ⟨gB, 0, none⟩) (.inr (by simp; omega)) _).setCell (p := ⟨gB, 1, none⟩) (.inr (by simp; omega)) _
    · go_wp2
      go_meet
      exact ⟨⟨wp, wc, wide, hp, hc, high, hB, hW2, hH2, hws.out, hhs.out, hw4, hh4, hwf2, hhf2⟩, hP2.out, hSW, hEW⟩
  case rest =>
    clear hB b0 bl hW2 hH2 hP2 hSW hEW hws hhs hw4 hh4 hwf2 hhf2 hwg hhg
    obtain ⟨⟨wp, wcap, wide, hp, hc, high, hB, hW, hH, hws, hhs, hw4, hh4, hwf, hhf⟩, hP, hS, hE⟩ := hcut
    generalize wc = W3 at *
    have hfl := flip_any w.heap.size (0 + 40 + 40) 15 _ (by omega) (by omega) (by omega) hS
    replace hfl := Lib.hid hfl
    replace hP := Lib.hid hP
    replace hws := Lib.hid hws
    replace hhs := Lib.hid hhs
    clear hS
    go_upto_if 36 with (go_at_call 9; (with_reducible refine Calls.mono hfl.out ?_); rintro e w11 ⟨bb, rfl, hS11, hE11⟩)
    have hB11 := hB.extS (by omega) hE11
    have hE12 := hE.trans hE11
    have hW11 := hW.extS hE11 hwf
    have hH11 := hH.extS hE11 hhf
    clear hfl hB hE hW hH
    go_cut [4] (fun v4 w' => PplC gB v4 w' ∧ Ext w w')
    case first =>
      cases bb
      · go_wp2
        go_meet
        exact ⟨⟨pp, pc, P, wp, wcap, wide, hp, hc, high, rfl, by omega, hw4, hh4, hB11, hP.out.extS hE11 hpf2, hW11, hH11, Slc.nil _ _ _, hPs.out, hws.out, hhs.out, (fun x hx => by cases hx), by omega, by simp⟩, hbk.out _ hE12⟩
      · go_upto_region 6 with fail
        have hsl : w.heap.size < w11.heap.size := hS11.lt
        have hsl' : w.heap.size < w11.drew.heap.size := hsl
        have hgl : gB < w11.heap.size := hB11.lt
        have hSd : Str w11.drew w.heap.size (0 + 40 + 40 + 1) := hS11.ext (Ext.drew (Ext.refl _))
        refine wp_region_facts [] [([], false, false), ([0], true, false), ([], false, true), ([], false, false), ([3], true, false), ([2, 3, 4], false, false), ([], false, true), ([2, 3, 4, 5, 6], false, false), ([0, 1], false, false)] (ExtS w.heap.size) Ext (fun u => Str u w.heap.size (0 + 40 + 40 + 1)) (by kernel_rfl) (by kernel_rfl) Ext.refl (fun _ _ _ => ExtS.trans) (fun _ _ h => h.extS) (fun _ _ h => h.2.2.2.1) (fun _ _ h he => h.ext he) hSd ?_
        dsimp only [List.length_cons, List.length_nil, List.drop_succ_cons, List.drop_zero, List.drop_nil]
        refine fac_quiet 0 rfl rfl rfl (fun _ _ h he => h.ext he) rfl rfl ?_
        apply Exists.intro
        refine ⟨fun sv w' hw' hfa => ?_, ?_⟩
        · refine ⟨rfl, ?_⟩
          simp only [putsL]
          change quietTo _ _ _ _ (Sem.run _ (execOp (Act.eval _) _) _)
          try simp only [Act.put, List.setIfInBounds_toArray, List.set_cons_succ, List.set_cons_zero]
          simp [go_sem, quietTo, Ext.refl]
          all_goals first
            | rfl
        refine fac_loud 1 rfl rfl rfl ?_
        refine ⟨(fun y u => ∃ (pp : Option Addr) (pc : Nat) (L : List PersonV), y 1 = .slice pp L.length pc ∧ L.length ≤ 12 ∧ Slc 3 perC u pp L.length pc L ∧ (∀ a, pp = some a → a.block ≠ w.heap.size ∧ a.block ≠ gB) ∧ ∀ x ∈ L, x.Small), (fun u => Str u w.heap.size (0 + 40 + 40 + 1 + 40)), fun sv w' hw' hfa hcc => ?_, ?_, ?_, ?_⟩
        · obtain ⟨f0, -⟩ := hfa
          replace f0 : sv 0 = _ := f0
          try dsimp only at f0
          skip
          refine ⟨rfl, ?_⟩
          simp only [putsL]
          change outc _ _ (Sem.run _ (execOp (Act.eval (Act.put _ (some 37) (sv 0))) _) _)
          try simp only [Act.put, List.setIfInBounds_toArray, List.set_cons_succ, List.set_cons_zero]
          simp [go_sem, outc, f0]
          have hz9 := hw'.2.2.2.1
          have hz8 : w11.drew.heap.size = w11.heap.size := rfl
          refine (people12_any w.heap.size (0 + 40 + 40 + 1) 12 _ (by omega) (by omega) hcc).mono ?_
          rintro e w4 ⟨p4, n4, c4, L4, rfl, hn4, hL4, hf4, hs4, hS4, hE4⟩
          obtain rfl : n4 = L4.length := (slcC hL4).1
          exact ⟨_, rfl, ⟨hE4, hS4⟩, p4, c4, L4, rfl, hn4, hL4, (fun a ha => by have := hf4 a ha; omega), hs4⟩
        · exact fun x u u' ⟨a1, a2, a3, h1, h2, h3, h4, h5⟩ he => ⟨a1, a2, a3, h1, h2, h3.extS he (fun a ha => (h4 a ha).1), h4, h5⟩
        · exact fun _ _ h he => h.ext he
        refine fac_row 2 rfl rfl rfl (fun _ _ h he => h.ext he) (fun _ _ h => h.2.2.2.1) (fun _ _ _ _ _ he hg hb => hb.extS (Nat.ne_of_gt (Nat.lt_of_lt_of_le hsl hg)) he) ?_
        apply Exists.intro
        apply Exists.intro
        apply Exists.intro
        apply Exists.intro
        refine ⟨fun sv w' hw' hfa => ?_, ?_⟩
        · refine ⟨rfl, ?_⟩
          simp only [putsL]
          change rowTo _ _ _ _ _ (Sem.run _ (execOp (Act.eval _) _) _)
          try simp only [Act.put, List.setIfInBounds_toArray, List.set_cons_succ, List.set_cons_zero]
          simp [go_sem, rowTo, Ext.refl]
          all_goals try simp (disch := omega) only [IntWalk.i64_in]
          all_goals first
            | rfl
            | exact ⟨rfl, rfl⟩
            | exact ⟨⟨rfl, rfl⟩, rfl⟩
        refine fac_quiet 3 rfl rfl rfl (fun _ _ h he => h.ext he) rfl rfl ?_
        apply Exists.intro
        refine ⟨fun sv w' hw' hfa => ?_, ?_⟩
        · refine ⟨rfl, ?_⟩
          simp only [putsL]
          change quietTo _ _ _ _ (Sem.run _ (execOp (Act.eval _) _) _)
          try simp only [Act.put, List.setIfInBounds_toArray, List.set_cons_succ, List.set_cons_zero]
          simp [go_sem, quietTo, Ext.refl]
          all_goals first
            | rfl
        refine fac_loud 4 rfl rfl rfl ?_
        refine ⟨(fun y _ => ∃ v : Nat, (2 ≤ v ∧ v ≤ 3) ∧ y 4 = .int .i64 v), (fun u => Str u w.heap.size (0 + 40 + 40 + 1 + 40 + 1)), fun sv w' hw' hfa hcc => ?_, ?_, ?_, ?_⟩
        · obtain ⟨f3, -⟩ := hfa
          replace f3 : sv 3 = _ := f3
          try dsimp only at f3
          skip
          refine ⟨rfl, ?_⟩
          simp only [putsL]
          change outc _ _ (Sem.run _ (execOp (Act.eval (Act.put _ (some 40) (sv 3))) _) _)
          try simp only [Act.put, List.setIfInBounds_toArray, List.set_cons_succ, List.set_cons_zero]
          simp [go_sem, outc, f3]
          refine (range_any w.heap.size (0 + 40 + 40 + 1 + 40) 2 3 _ (by omega) (by omega) (by omega) (by omega) (by omega) hcc).mono ?_
          rintro e w4 ⟨y, rfl, ya, yb, hS4, hE4⟩
          exact ⟨_, rfl, ⟨hE4, hS4⟩, y.toNat, by omega, by show Value.int .i64 y = _; rw [Int.toNat_of_nonneg (by omega)]⟩
        · intro x w w' h he; exact h
        · exact fun _ _ h he => h.ext he
        refine fac_any 5 rfl rfl rfl (fun _ _ h he => h.ext he) ?_
        refine ⟨(fun y _ => ∃ (g v : Nat), y 2 = .slice (some ⟨g, 0, none⟩) 3 3 ∧ y 4 = .int .i64 v ∧ y 5 = .slice (some ⟨g, 0, none⟩) v 3), fun sv w' hw' hfa => ?_, ?_, ?_⟩
        · obtain ⟨f2, f3, f4, -⟩ := hfa
          obtain ⟨g2, f2, l2, b2⟩ := f2
          replace f2 : sv 2 = _ := f2
          obtain ⟨p2, q2⟩ := b2.walk
          replace f3 : sv 3 = _ := f3
          try dsimp only at f3
          obtain ⟨v4, hv4, f4⟩ := f4
          replace f4 : sv 4 = _ := f4
          skip
          refine ⟨rfl, ?_⟩
          simp only [putsL]
          change outc _ _ (Sem.run _ (execOp (Act.eval (Act.put (Act.put (Act.put _ (some 41) (sv 4)) (some 40) (sv 3)) (some 39) (sv 2))) _) _)
          try simp only [Act.put, List.setIfInBounds_toArray, List.set_cons_succ, List.set_cons_zero]
          simp [go_sem, outc, f2, f4, p2, q2, (show (v4 : Int) ≤ 3 by omega)]
          exact ⟨Ext.refl _, g2, by simp [upd, f2], v4, by simp [upd, f4], by simp [upd]⟩
        · intro x w w' h he; exact h
        refine fac_row 6 rfl rfl rfl (fun _ _ h he => h.ext he) (fun _ _ h => h.2.2.2.1) (fun _ _ _ _ _ he hg hb => hb.extS (Nat.ne_of_gt (Nat.lt_of_lt_of_le hsl hg)) he) ?_
        apply Exists.intro
        apply Exists.intro
        apply Exists.intro
        apply Exists.intro
        refine ⟨fun sv w' hw' hfa => ?_, ?_⟩
        · refine ⟨rfl, ?_⟩
          simp only [putsL]
          change rowTo _ _ _ _ _ (Sem.run _ (execOp (Act.eval _) _) _)
          try simp only [Act.put, List.setIfInBounds_toArray, List.set_cons_succ, List.set_cons_zero]
          simp [go_sem, rowTo, Ext.refl]
          all_goals try simp (disch := omega) only [IntWalk.i64_in]
          all_goals first
            | rfl
            | exact ⟨rfl, rfl⟩
            | exact ⟨⟨rfl, rfl⟩, rfl⟩
        refine fac_any 7 rfl rfl rfl (fun _ _ h he => h.ext he) ?_
        refine ⟨(fun y _ => ∃ (g v g6 : Nat), y 2 = .slice (some ⟨g, 0, none⟩) 3 3 ∧ y 4 = .int .i64 v ∧ y 6 = .slice (some ⟨g6, 0, none⟩) 3 3 ∧ y 7 = .agg #[.slice (some ⟨g, 0, none⟩) v 3, .slice (some ⟨g6, 0, none⟩) 3 3]), fun sv w' hw' hfa => ?_, ?_, ?_⟩
        · obtain ⟨f2, f3, f4, f5, f6, -⟩ := hfa
          obtain ⟨g2, f2, l2, b2⟩ := f2
          replace f2 : sv 2 = _ := f2
          obtain ⟨p2, q2⟩ := b2.walk
          replace f3 : sv 3 = _ := f3
          try dsimp only at f3
          obtain ⟨v4, hv4, f4⟩ := f4
          replace f4 : sv 4 = _ := f4
          obtain ⟨g5, v5, e52, e54, f5⟩ := f5
          replace f5 : sv 5 = _ := f5
          replace e52 : sv 2 = _ := e52
          replace e54 : sv 4 = _ := e54
          obtain ⟨g6, f6, l6, b6⟩ := f6
          replace f6 : sv 6 = _ := f6
          obtain ⟨p6, q6⟩ := b6.walk
          skip
          refine ⟨rfl, ?_⟩
          simp only [putsL]
          change outc _ _ (Sem.run _ (execOp (Act.eval (Act.put (Act.put (Act.put (Act.put (Act.put _ (some 43) (sv 6)) (some 42) (sv 5)) (some 41) (sv 4)) (some 40) (sv 3)) (some 39) (sv 2))) _) _)
          try simp only [Act.put, List.setIfInBounds_toArray, List.set_cons_succ, List.set_cons_zero]
          simp [go_sem, outc, f5, f6]
          exact ⟨Ext.refl _, g5, by simp [upd, e52], v5, by simp [upd, e54], g6, by simp [upd, f6], by simp [upd]⟩
        · intro x w w' h he; exact h
        refine fac_any 8 rfl rfl rfl (fun _ _ h he => h.ext he) ?_
        refine ⟨(fun y _ => y 8 = y 1), fun sv w' hw' hfa => ?_, ?_, ?_⟩
        · obtain ⟨f0, f1, -⟩ := hfa
          replace f0 : sv 0 = _ := f0
          try dsimp only at f0
          obtain ⟨p1x, c1x, L1, f1, hL12, hL1, hLf, hLs⟩ := f1
          replace f1 : sv 1 = _ := f1
          skip
          refine ⟨rfl, ?_⟩
          simp only [putsL]
          change outc _ _ (Sem.run _ (execOp (Act.eval (Act.put (Act.put _ (some 38) (sv 1)) (some 37) (sv 0))) _) _)
          try simp only [Act.put, List.setIfInBounds_toArray, List.set_cons_succ, List.set_cons_zero]
          simp [go_sem, outc, f1]
          exact ⟨Ext.refl _, by simp [upd, f1]⟩
        · intro x w w' h he; exact h
        refine fac_nil fun xq wrq herq hfrq hcrq holdq hapq => ?_
        obtain ⟨f0, f1, f2, f3, f4, f5, f6, f7, f8, -⟩ := hfrq
        replace f0 : xq 0 = _ := f0
        try dsimp only at f0
        obtain ⟨p1x, c1x, L1, f1, hL12, hL1, hLf, hLs⟩ := f1
        replace f1 : xq 1 = _ := f1
        obtain ⟨g2, f2, l2, b2⟩ := f2
        replace f2 : xq 2 = _ := f2
        obtain ⟨p2, q2⟩ := b2.walk
        replace f3 : xq 3 = _ := f3
        try dsimp only at f3
        obtain ⟨v4, hv4, f4⟩ := f4
        replace f4 : xq 4 = _ := f4
        obtain ⟨g5, v5, e52, e54, f5⟩ := f5
        replace f5 : xq 5 = _ := f5
        replace e52 : xq 2 = _ := e52
        replace e54 : xq 4 = _ := e54
        obtain ⟨g6, f6, l6, b6⟩ := f6
        replace f6 : xq 6 = _ := f6
        obtain ⟨p6, q6⟩ := b6.walk
        obtain ⟨g7, v7, h7, e72, e74, e76, f7⟩ := f7
        replace f7 : xq 7 = _ := f7
        replace e72 : xq 2 = _ := e72
        replace e74 : xq 4 = _ := e74
        replace e76 : xq 6 = _ := e76
        replace f8 : xq 8 = _ := f8
        change wpList _ _ _ _ (Act.put (Act.put (Act.put (Act.put (Act.put (Act.put (Act.put (Act.put (Act.put _ (some 37) (xq 0)) (some 38) (xq 1)) (some 39) (xq 2)) (some 40) (xq 3)) (some 41) (xq 4)) (some 42) (xq 5)) (some 43) (xq 6)) (some 44) (xq 7)) (some 4) (xq 8)) _
        simp only [putsL, Nat.reduceAdd, List.drop_succ_cons, List.drop_zero, List.drop_nil, Act.put, List.setIfInBounds_toArray, List.set_cons_succ, List.set_cons_zero]
        try simp only [f0, f1, f2, f3, f4, f5, f6, f7, f8]
        clear f0 f3
        clear holdq hapq
        obtain rfl : g7 = g2 := by have := e72.symm.trans f2; simpa using this
        obtain rfl : v7 = v4 := by have := e74.symm.trans f4; simp at this; omega
        obtain rfl : h7 = g6 := by have := e76.symm.trans f6; simpa using this
        clear e52 e54 e72 e74 e76 f4 f5 f7 f8
        replace f1 := Lib.hid f1
        have hBq := hB11.extS (by omega) ((ExtS.refl _ _).drew.trans herq)
        have hEq := hE12.drew.trans herq
        obtain ⟨z0, z1⟩ := hBq.walk
        have zl := hBq.lt
        obtain ⟨v2, v3⟩ := hv4
        have v3I : (v7 : Int) ≤ 3 := by omega
        have hl0 : w11.heap.size ≤ g7 := l2
        have hl1 : w11.heap.size ≤ h7 := l6
        have hW9 : Slc 1 intC wrq (some ⟨g7, 0, none⟩) v7 3 (([6, 6, 1] : List Int).take v7) := (slc_rowI (xs := [6, 6, 1]) b2 (by decide)).takeZ v3
        have hH9 : Slc 1 intC wrq (some ⟨h7, 0, none⟩) v7 3 (([0, 0, 0] : List Int).take v7) := (slc_rowI (xs := [0, 0, 0]) b6 (by decide)).takeZ v3
        have hlw : (([6, 6, 1] : List Int).take v7).length = v7 := by rw [List.length_take]; simp; omega
        have hlh : (([0, 0, 0] : List Int).take v7).length = v7 := by rw [List.length_take]; simp; omega
        replace hlw := Lib.hid hlw
        replace hlh := Lib.hid hlh
        replace hW9 := Lib.hid hW9
        replace hH9 := Lib.hid hH9
        replace hL1 := Lib.hid hL1
        replace hLs := Lib.hid hLs
        replace hLf := Lib.hid hLf
        clear l2 l6 b2 b6 p2 p6 q2 q6
        go_wp2
        go_meet
        have hG : ExtS gB wrq (((wrq.setCell ⟨gB, 0, none⟩ (.slice (some ⟨g7, 0, none⟩) v7 3)).setCell ⟨gB, 1, none⟩ (.slice (some ⟨h7, 0, none⟩) 3 3)).setCell ⟨gB, 1, none⟩ (.slice (some ⟨h7, 0, none⟩) v7 3)) := (((ExtS.refl _ _).setCell (p := ⟨gB, 0, none⟩) (.inl rfl) _).setCell (p := ⟨gB, 1, none⟩) (.inl rfl) _).setCell (p := ⟨gB, 1, none⟩) (.inl rfl) _
        refine ⟨⟨p1x, c1x, L1, some ⟨g7, 0, none⟩, 3, ([6, 6, 1] : List Int).take v7, some ⟨h7, 0, none⟩, 3, ([0, 0, 0] : List Int).take v7, f1.out, hL12, ?_, ?_, ?_, ⟨?_, ?_, ?_, Slc.nil _ _ _, hLs.out, smallTake ?_ _, smallTake ?_ _, (fun x hx => by cases hx), by omega, by simp⟩⟩, hbk.out _ ?_⟩
        · rw [hlw.out]; omega
        · rw [hlh.out]; omega
        · rw [hlw.out, hlh.out]
          exact (((hBq.set_ 0 (.slice (some ⟨g7, 0, none⟩) v7 3)).set_ 1 (.slice (some ⟨h7, 0, none⟩) 3 3)).set_ 1 (.slice (some ⟨h7, 0, none⟩) v7 3)).cast (by simp)
        · exact hL1.out.extS hG fun a ha => (hLf.out a ha).2
        · rw [hlw.out]
          exact hW9.out.extS hG fun a ha => by cases ha; simp; omega
        · rw [hlh.out]
          exact hH9.out.extS hG fun a ha => by cases ha; simp; omega
        · intro x hx; simp at hx; omega
        · intro x hx; simp at hx; omega
        · exact ((hEq.setCell (p := ⟨gB, 0, none⟩) (.inr (by simp; omega)) _).setCell (p := ⟨gB, 1, none⟩) (.inr (by simp; omega)) _).setCell (p := ⟨gB, 1, none⟩) (.inr (by simp; omega)) _
    case rest =>
      clear hB11 hE12 hW11 hH11 hS11 hE11 hws hhs hP hPs hw4 hh4 hwf hhf hpf2 hpg hn9
      obtain ⟨⟨pp, pc, P, wp, wcap, wide, hp, hc, high, rfl, hP12, hw4, hh4, hB, hM⟩, hE⟩ := hcut
      generalize wc = W5 at *
      obtain ⟨b0, -⟩ := hB.walk
      have bl := hB.lt
      by_cases hmid : 4 < P.length ∧ P.length ≤ 7
      · obtain ⟨m1, m2⟩ := hmid
        have m1I : (4 : Int) < P.length := by omega
        have m2I : (P.length : Int) ≤ 7 := by omega
        clear hM hB
        go_wp2_with (go_at_call 11; (with_reducible refine Calls.mono (stood_any _) ?_); rintro e w7 ⟨rfl, hb7⟩)
        go_ret
        exact ⟨rfl, hE.trans hb7⟩
      have hf1 := fun u (hu : Ext W5 u) => faultPeople_any pp P.length pc P u (hM.per.ext hu).1 hM.sP hM.nP
      have hf2 := fun u (hu : Ext W5 u) => faultStage_any wp wcap hp hc wide high u (hM.wid.ext hu) (hM.hig.ext hu) hM.sw hM.sh
      have hos : orF [peopleF P, stageF wide high] = ostF P wide high := by unfold ostF orF orF orF; split <;> simp_all
      replace hf1 := Lib.hid hf1
      replace hf2 := Lib.hid hf2
      replace hos := Lib.hid hos
      by_cases h0 : leastF P wide high = 0
      · obtain ⟨hpo, hwo, hho, hwh, ho, hff, n7, n12, hpl⟩ := leastF_ok h0
        have h4 : P.length ≤ 4 := by omega
        have h4I : ¬ (4 : Int) < P.length := by omega
        have hbig : bigF P wide = 0 := by unfold leastF at h0; rw [if_pos ho] at h0; exact h0
        have hle := least_any hM h0 h4
        have hlo := fun u (hu : Ext W5 u) => leastOf_any (hM.more hu) h0 h4
        have hrl := fun u (hu : Ext W5 u) => rleast_any pp pc P hM.nP wp wcap wide hp high.length hc u (hM.wid.ext hu) hwo
        rw [hbig] at hrl
        have hr9 : (leF P wide high (plA wide) P.length [] (P.length + 1, [])).2.length ≤ P.length := leF_inv (R := fun _ => True) (Q := fun T => T.length ≤ P.length) (fun _ _ _ _ _ _ => trivial) (fun T _ h => Nat.le_of_eq h) P.length [] _ trivial (by simp) (by simp)
        generalize (leF P wide high (plA wide) P.length [] (P.length + 1, [])) = R at *
        obtain ⟨r1, r2⟩ := R
        simp only at hr9
        replace hle := Lib.hid hle
        replace hlo := Lib.hid hlo
        replace hrl := Lib.hid hrl
        clear hpo hwo hho hwh hff n7 n12 hpl hbig h0 hmid
        replace ho := Lib.hid ho
        go_upto_region 11 with (go_at_call 12; (with_reducible refine Calls.mono hle.out ?_); rintro e y1 ⟨q1, c1, M, rfl, hMp, hMs, hQ1, hy1⟩; replace hMp := Lib.hid hMp; replace hMs := Lib.hid hMs; clear b0 bl)
        have hB1 := hB.ext hy1
        have hM9 : M.length ≤ 12 := by have := hMp.out.length_eq; omega
        refine wp_region_facts [] [([], false, false), ([0], false, false), ([], false, false), ([2], false, false), ([0, 1, 2, 3], false, true), ([0, 1, 2, 3, 4], false, false)] (Ext) Ext (fun _ => True) (by kernel_rfl) (by kernel_rfl) Ext.refl (fun _ _ _ => Ext.trans) (fun _ _ h => h) (fun _ _ h => h.size) (fun _ _ h _ => h) trivial ?_
        dsimp only [List.length_cons, List.length_nil, List.drop_succ_cons, List.drop_zero, List.drop_nil]
        refine fac_quiet 0 rfl rfl rfl (fun _ _ h _ => h) rfl rfl ?_
        apply Exists.intro
        refine ⟨fun sv w' hw' hfa => ?_, ?_⟩
        · refine ⟨rfl, ?_⟩
          simp only [putsL]
          change quietTo _ _ _ _ (Sem.run _ (execOp (Act.eval _) _) _)
          try simp only [Act.put, List.setIfInBounds_toArray, List.set_cons_succ, List.set_cons_zero]
          simp [go_sem, quietTo, Ext.refl]
          all_goals first
            | rfl
        refine fac_quiet 1 rfl rfl rfl (fun _ _ h _ => h) rfl rfl ?_
        apply Exists.intro
        refine ⟨fun sv w' hw' hfa => ?_, ?_⟩
        · obtain ⟨f0, -⟩ := hfa
          replace f0 : sv 0 = _ := f0
          try dsimp only at f0
          have hk9 := (Ext.refl y1).drew.trans hw'; obtain ⟨z1, -⟩ := (hB1.ext hk9).walk
          refine ⟨rfl, ?_⟩
          simp only [putsL]
          change quietTo _ _ _ _ (Sem.run _ (execOp (Act.eval (Act.put _ (some 68) (sv 0))) _) _)
          try simp only [Act.put, List.setIfInBounds_toArray, List.set_cons_succ, List.set_cons_zero]
          simp [go_sem, quietTo, Ext.refl, ↓IntWalk.iteOmega, f0]
          all_goals try simp (disch := omega) only [IntWalk.i64_in]
          all_goals first
            | rfl
            | (exact hf1.out _ (hy1.trans hk9))
        refine fac_quiet 2 rfl rfl rfl (fun _ _ h _ => h) rfl rfl ?_
        apply Exists.intro
        refine ⟨fun sv w' hw' hfa => ?_, ?_⟩
        · have hk9 := (Ext.refl y1).drew.trans hw'; obtain ⟨z1, -⟩ := (hB1.ext hk9).walk
          refine ⟨rfl, ?_⟩
          simp only [putsL]
          change quietTo _ _ _ _ (Sem.run _ (execOp (Act.eval _) _) _)
          try simp only [Act.put, List.setIfInBounds_toArray, List.set_cons_succ, List.set_cons_zero]
          simp [go_sem, quietTo, Ext.refl, ↓IntWalk.iteOmega, z1]
          all_goals try simp (disch := omega) only [IntWalk.i64_in]
          all_goals first
            | rfl
        refine fac_quiet 3 rfl rfl rfl (fun _ _ h _ => h) rfl rfl ?_
        apply Exists.intro
        refine ⟨fun sv w' hw' hfa => ?_, ?_⟩
        · obtain ⟨f2, -⟩ := hfa
          replace f2 : sv 2 = _ := f2
          try dsimp only at f2
          have hk9 := (Ext.refl y1).drew.trans hw'; obtain ⟨z1, -⟩ := (hB1.ext hk9).walk
          refine ⟨rfl, ?_⟩
          simp only [putsL]
          change quietTo _ _ _ _ (Sem.run _ (execOp (Act.eval (Act.put _ (some 70) (sv 2))) _) _)
          try simp only [Act.put, List.setIfInBounds_toArray, List.set_cons_succ, List.set_cons_zero]
          simp [go_sem, quietTo, Ext.refl, ↓IntWalk.iteOmega, f2]
          all_goals try simp (disch := omega) only [IntWalk.i64_in]
          all_goals first
            | rfl
            | (exact hf2.out _ (hy1.trans hk9))
        refine fac_row 4 rfl rfl rfl (fun _ _ h _ => h) (fun _ _ h => h.size) (fun _ _ _ _ _ he _ hb => hb.ext he) ?_
        apply Exists.intro
        apply Exists.intro
        apply Exists.intro
        apply Exists.intro
        refine ⟨fun sv w' hw' hfa => ?_, ?_⟩
        · obtain ⟨_, f1, _, f3, -⟩ := hfa
          replace f1 : sv 1 = _ := f1
          try dsimp only at f1
          replace f3 : sv 3 = _ := f3
          try dsimp only at f3
          refine ⟨rfl, ?_⟩
          simp only [putsL]
          change rowTo _ _ _ _ _ (Sem.run _ (execOp (Act.eval (Act.put (Act.put (Act.put (Act.put _ (some 71) (sv 3)) (some 70) (sv 2)) (some 69) (sv 1)) (some 68) (sv 0))) _) _)
          try simp only [Act.put, List.setIfInBounds_toArray, List.set_cons_succ, List.set_cons_zero]
          simp [go_sem, rowTo, Ext.refl, f1, f3]
          all_goals try simp (disch := omega) only [IntWalk.i64_in]
          all_goals first
            | rfl
            | exact ⟨rfl, rfl⟩
            | exact ⟨⟨rfl, rfl⟩, rfl⟩
        refine fac_quiet 5 rfl rfl rfl (fun _ _ h _ => h) rfl rfl ?_
        apply Exists.intro
        refine ⟨fun sv w' hw' hfa => ?_, ?_⟩
        · obtain ⟨f0, f1, f2, f3, f4, -⟩ := hfa
          replace f0 : sv 0 = _ := f0
          try dsimp only at f0
          replace f1 : sv 1 = _ := f1
          try dsimp only at f1
          replace f2 : sv 2 = _ := f2
          try dsimp only at f2
          replace f3 : sv 3 = _ := f3
          try dsimp only at f3
          obtain ⟨g4, f4, l4, b4⟩ := f4
          replace f4 : sv 4 = _ := f4
          obtain ⟨p4, q4⟩ := b4.walk
          have hk9 := (Ext.refl y1).drew.trans hw'; obtain ⟨z1, -⟩ := (hB1.ext hk9).walk
          refine ⟨rfl, ?_⟩
          simp only [putsL]
          change quietTo _ _ _ _ (Sem.run _ (execOp (Act.eval (Act.put (Act.put (Act.put (Act.put (Act.put _ (some 72) (sv 4)) (some 71) (sv 3)) (some 70) (sv 2)) (some 69) (sv 1)) (some 68) (sv 0))) _) _)
          try simp only [Act.put, List.setIfInBounds_toArray, List.set_cons_succ, List.set_cons_zero]
          simp [go_sem, quietTo, Ext.refl, ↓IntWalk.iteOmega, f4, p4, q4]
          all_goals try simp (disch := omega) only [IntWalk.i64_in]
          all_goals first
            | rfl
            | (exact (orErr_blk _ _ 2 [peopleF P, stageF wide high] _ (by simp) b4).mono fun _ _ h => ⟨h.1, h.2 ▸ Ext.refl _⟩)
        refine fac_nil fun xq wrq herq hfrq hcrq holdq hapq => ?_
        obtain ⟨f0, f1, f2, f3, f4, f5, -⟩ := hfrq
        replace f0 : xq 0 = _ := f0
        try dsimp only at f0
        replace f1 : xq 1 = _ := f1
        try dsimp only at f1
        replace f2 : xq 2 = _ := f2
        try dsimp only at f2
        replace f3 : xq 3 = _ := f3
        try dsimp only at f3
        obtain ⟨g4, f4, l4, b4⟩ := f4
        replace f4 : xq 4 = _ := f4
        obtain ⟨p4, q4⟩ := b4.walk
        replace f5 : xq 5 = _ := f5
        try dsimp only at f5
        change wpList _ _ _ _ (Act.put (Act.put (Act.put (Act.put (Act.put (Act.put _ (some 68) (xq 0)) (some 69) (xq 1)) (some 70) (xq 2)) (some 71) (xq 3)) (some 72) (xq 4)) (some 73) (xq 5)) _
        simp only [putsL, Nat.reduceAdd, List.drop_succ_cons, List.drop_zero, List.drop_nil, Act.put, List.setIfInBounds_toArray, List.set_cons_succ, List.set_cons_zero]
        try simp only [f0, f1, f2, f3, f4, f5]
        clear f0 f1 f2 f3 f5
        clear holdq hapq
        have hk1 := (Ext.refl y1).drew.trans herq
        have hkq := hy1.trans hk1
        have hQ1' := hQ1.ext hk1
        rw [hos.out, ho.out]
        obtain ⟨b1, -⟩ := (hB.ext hkq).walk
        have bl1 := (hB.ext hkq).lt
        clear hf1 hf2 hos ho hle hQ1 herq hB1
        replace hQ1' := Lib.hid hQ1'
        go_wp2_with (first
          | (go_at_call 16; (with_reducible refine Calls.mono (hrl.out _ hkq) ?_); rintro e y2 ⟨rfl, hy2⟩; have E2 := hkq.trans hy2; clear b1 bl1; obtain ⟨b2, -⟩ := (hB.ext E2).walk; have bl2 := (hB.ext E2).lt)
          | (go_at_call 17; (with_reducible refine Calls.mono (hlo.out _ E2) ?_); rintro e y3 ⟨q3, c3, M3, rfl, hNp, hNs, hQ3, hy3⟩; have E3 := E2.trans hy3; have heq := sorted_same hMs.out hNs (hMp.out.trans hNp.symm); subst heq; replace hNp := Lib.hid hNp; replace hNs := Lib.hid hNs)
          | (go_at_call 18; (with_reducible refine Calls.mono (eqSta_any q1 q3 _ c1 c3 _ _ ((hQ1'.out.ext hy2).ext hy3) hQ3 (by omega)) ?_); rintro e y4 ⟨rfl, hy4⟩; have E4 := E3.trans hy4)
          | (go_at_call 11; (with_reducible refine Calls.mono (stood_any _) ?_); rintro e y5 ⟨rfl, hy5⟩))
        go_ret
        exact ⟨rfl, hE.trans (E4.trans hy5)⟩
      · have hle := least_bad hM rfl h0
        have hlf : leastF P wide high = if ostF P wide high = 0 then bigF P wide else ostF P wide high := rfl
        by_cases h4 : P.length ≤ 4
        all_goals
          have h4I : ((4 : Int) < P.length → False) ∨ ((4 : Int) < P.length ∧ ¬ (P.length : Int) ≤ 7) := by omega
          first
            | (have h5I : ¬ (4 : Int) < P.length := by omega)
            | (have h5I : (4 : Int) < P.length := by omega
               have h6I : ¬ (P.length : Int) ≤ 7 := by omega)
          clear h4 h4I hmid
          by_cases ho : ostF P wide high = 0
          · have hwo : WideOk wide := by
              have e := ho
              unfold ostF at e
              by_cases hp0 : peopleF P = 0
              · rw [if_pos hp0] at e; exact (stageF_ok e).1
              · rw [if_neg hp0] at e; exact absurd e hp0
            rw [if_pos ho] at hlf
            rw [hlf] at h0 hle
            have hrl := fun u (hu : Ext W5 u) => rleast_any pp pc P hM.nP wp wcap wide hp high.length hc u (hM.wid.ext hu) hwo
            generalize bigF P wide = bf at *
            replace hle := Lib.hid hle
            replace hrl := Lib.hid hrl
            replace ho := Lib.hid ho
            clear hlf hwo
            go_upto_region 11 with (go_at_call 12; (with_reducible refine Calls.mono hle.out ?_); rintro e y1 ⟨rfl, hy1⟩; clear b0 bl)
            have hB1 := hB.ext hy1
            refine wp_region_facts [] [([], false, false), ([0], false, false), ([], false, false), ([2], false, false), ([0, 1, 2, 3], false, true), ([0, 1, 2, 3, 4], false, false)] (Ext) Ext (fun _ => True) (by kernel_rfl) (by kernel_rfl) Ext.refl (fun _ _ _ => Ext.trans) (fun _ _ h => h) (fun _ _ h => h.size) (fun _ _ h _ => h) trivial ?_
            dsimp only [List.length_cons, List.length_nil, List.drop_succ_cons, List.drop_zero, List.drop_nil]
            refine fac_quiet 0 rfl rfl rfl (fun _ _ h _ => h) rfl rfl ?_
            apply Exists.intro
            refine ⟨fun sv w' hw' hfa => ?_, ?_⟩
            · refine ⟨rfl, ?_⟩
              simp only [putsL]
              change quietTo _ _ _ _ (Sem.run _ (execOp (Act.eval _) _) _)
              try simp only [Act.put, List.setIfInBounds_toArray, List.set_cons_succ, List.set_cons_zero]
              simp [go_sem, quietTo, Ext.refl]
              all_goals first
                | rfl
            refine fac_quiet 1 rfl rfl rfl (fun _ _ h _ => h) rfl rfl ?_
            apply Exists.intro
            refine ⟨fun sv w' hw' hfa => ?_, ?_⟩
            · obtain ⟨f0, -⟩ := hfa
              replace f0 : sv 0 = _ := f0
              try dsimp only at f0
              have hk9 := (Ext.refl y1).drew.trans hw'; obtain ⟨z1, -⟩ := (hB1.ext hk9).walk
              refine ⟨rfl, ?_⟩
              simp only [putsL]
              change quietTo _ _ _ _ (Sem.run _ (execOp (Act.eval (Act.put _ (some 68) (sv 0))) _) _)
              try simp only [Act.put, List.setIfInBounds_toArray, List.set_cons_succ, List.set_cons_zero]
              simp [go_sem, quietTo, Ext.refl, ↓IntWalk.iteOmega, f0]
              all_goals try simp (disch := omega) only [IntWalk.i64_in]
              all_goals first
                | rfl
                | (exact hf1.out _ (hy1.trans hk9))
            refine fac_quiet 2 rfl rfl rfl (fun _ _ h _ => h) rfl rfl ?_
            apply Exists.intro
            refine ⟨fun sv w' hw' hfa => ?_, ?_⟩
            · have hk9 := (Ext.refl y1).drew.trans hw'; obtain ⟨z1, -⟩ := (hB1.ext hk9).walk
              refine ⟨rfl, ?_⟩
              simp only [putsL]
              change quietTo _ _ _ _ (Sem.run _ (execOp (Act.eval _) _) _)
              try simp only [Act.put, List.setIfInBounds_toArray, List.set_cons_succ, List.set_cons_zero]
              simp [go_sem, quietTo, Ext.refl, ↓IntWalk.iteOmega, z1]
              all_goals try simp (disch := omega) only [IntWalk.i64_in]
              all_goals first
                | rfl
            refine fac_quiet 3 rfl rfl rfl (fun _ _ h _ => h) rfl rfl ?_
            apply Exists.intro
            refine ⟨fun sv w' hw' hfa => ?_, ?_⟩
            · obtain ⟨f2, -⟩ := hfa
              replace f2 : sv 2 = _ := f2
              try dsimp only at f2
              have hk9 := (Ext.refl y1).drew.trans hw'; obtain ⟨z1, -⟩ := (hB1.ext hk9).walk
              refine ⟨rfl, ?_⟩
              simp only [putsL]
              change quietTo _ _ _ _ (Sem.run _ (execOp (Act.eval (Act.put _ (some 70) (sv 2))) _) _)
              try simp only [Act.put, List.setIfInBounds_toArray, List.set_cons_succ, List.set_cons_zero]
              simp [go_sem, quietTo, Ext.refl, ↓IntWalk.iteOmega, f2]
              all_goals try simp (disch := omega) only [IntWalk.i64_in]
              all_goals first
                | rfl
                | (exact hf2.out _ (hy1.trans hk9))
            refine fac_row 4 rfl rfl rfl (fun _ _ h _ => h) (fun _ _ h => h.size) (fun _ _ _ _ _ he _ hb => hb.ext he) ?_
            apply Exists.intro
            apply Exists.intro
            apply Exists.intro
            apply Exists.intro
            refine ⟨fun sv w' hw' hfa => ?_, ?_⟩
            · obtain ⟨_, f1, _, f3, -⟩ := hfa
              replace f1 : sv 1 = _ := f1
              try dsimp only at f1
              replace f3 : sv 3 = _ := f3
              try dsimp only at f3
              refine ⟨rfl, ?_⟩
              simp only [putsL]
              change rowTo _ _ _ _ _ (Sem.run _ (execOp (Act.eval (Act.put (Act.put (Act.put (Act.put _ (some 71) (sv 3)) (some 70) (sv 2)) (some 69) (sv 1)) (some 68) (sv 0))) _) _)
              try simp only [Act.put, List.setIfInBounds_toArray, List.set_cons_succ, List.set_cons_zero]
              simp [go_sem, rowTo, Ext.refl, f1, f3]
              all_goals try simp (disch := omega) only [IntWalk.i64_in]
              all_goals first
                | rfl
                | exact ⟨rfl, rfl⟩
                | exact ⟨⟨rfl, rfl⟩, rfl⟩
            refine fac_quiet 5 rfl rfl rfl (fun _ _ h _ => h) rfl rfl ?_
            apply Exists.intro
            refine ⟨fun sv w' hw' hfa => ?_, ?_⟩
            · obtain ⟨f0, f1, f2, f3, f4, -⟩ := hfa
              replace f0 : sv 0 = _ := f0
              try dsimp only at f0
              replace f1 : sv 1 = _ := f1
              try dsimp only at f1
              replace f2 : sv 2 = _ := f2
              try dsimp only at f2
              replace f3 : sv 3 = _ := f3
              try dsimp only at f3
              obtain ⟨g4, f4, l4, b4⟩ := f4
              replace f4 : sv 4 = _ := f4
              obtain ⟨p4, q4⟩ := b4.walk
              have hk9 := (Ext.refl y1).drew.trans hw'; obtain ⟨z1, -⟩ := (hB1.ext hk9).walk
              refine ⟨rfl, ?_⟩
              simp only [putsL]
              change quietTo _ _ _ _ (Sem.run _ (execOp (Act.eval (Act.put (Act.put (Act.put (Act.put (Act.put _ (some 72) (sv 4)) (some 71) (sv 3)) (some 70) (sv 2)) (some 69) (sv 1)) (some 68) (sv 0))) _) _)
              try simp only [Act.put, List.setIfInBounds_toArray, List.set_cons_succ, List.set_cons_zero]
              simp [go_sem, quietTo, Ext.refl, ↓IntWalk.iteOmega, f4, p4, q4]
              all_goals try simp (disch := omega) only [IntWalk.i64_in]
              all_goals first
                | rfl
                | (exact (orErr_blk _ _ 2 [peopleF P, stageF wide high] _ (by simp) b4).mono fun _ _ h => ⟨h.1, h.2 ▸ Ext.refl _⟩)
            refine fac_nil fun xq wrq herq hfrq hcrq holdq hapq => ?_
            obtain ⟨f0, f1, f2, f3, f4, f5, -⟩ := hfrq
            replace f0 : xq 0 = _ := f0
            try dsimp only at f0
            replace f1 : xq 1 = _ := f1
            try dsimp only at f1
            replace f2 : xq 2 = _ := f2
            try dsimp only at f2
            replace f3 : xq 3 = _ := f3
            try dsimp only at f3
            obtain ⟨g4, f4, l4, b4⟩ := f4
            replace f4 : xq 4 = _ := f4
            obtain ⟨p4, q4⟩ := b4.walk
            replace f5 : xq 5 = _ := f5
            try dsimp only at f5
            change wpList _ _ _ _ (Act.put (Act.put (Act.put (Act.put (Act.put (Act.put _ (some 68) (xq 0)) (some 69) (xq 1)) (some 70) (xq 2)) (some 71) (xq 3)) (some 72) (xq 4)) (some 73) (xq 5)) _
            simp only [putsL, Nat.reduceAdd, List.drop_succ_cons, List.drop_zero, List.drop_nil, Act.put, List.setIfInBounds_toArray, List.set_cons_succ, List.set_cons_zero]
            try simp only [f0, f1, f2, f3, f4, f5]
            clear f0 f1 f2 f3 f5
            clear holdq hapq
            have hkq := hy1.trans ((Ext.refl y1).drew.trans herq)
            rw [hos.out, ho.out]
            obtain ⟨b1, -⟩ := (hB.ext hkq).walk
            have bl1 := (hB.ext hkq).lt
            clear hf1 hf2 hos ho hle herq hB1
            go_wp2_with (first
              | (go_at_call 16; (with_reducible refine Calls.mono (hrl.out _ hkq) ?_); rintro e y2 ⟨rfl, hy2⟩; have E2 := hkq.trans hy2; clear b1 bl1)
              | (go_at_call 11; (with_reducible refine Calls.mono (stood_any _) ?_); rintro e y5 ⟨rfl, hy5⟩))
            go_ret
            exact ⟨rfl, hE.trans (E2.trans hy5)⟩
          · rw [if_neg ho] at hlf
            rw [hlf] at h0 hle
            replace hle := Lib.hid hle
            clear hlf h0
            go_upto_region 11 with (go_at_call 12; (with_reducible refine Calls.mono hle.out ?_); rintro e y1 ⟨rfl, hy1⟩; clear b0 bl)
            have hB1 := hB.ext hy1
            refine wp_region_facts [] [([], false, false), ([0], false, false), ([], false, false), ([2], false, false), ([0, 1, 2, 3], false, true), ([0, 1, 2, 3, 4], false, false)] (Ext) Ext (fun _ => True) (by kernel_rfl) (by kernel_rfl) Ext.refl (fun _ _ _ => Ext.trans) (fun _ _ h => h) (fun _ _ h => h.size) (fun _ _ h _ => h) trivial ?_
            dsimp only [List.length_cons, List.length_nil, List.drop_succ_cons, List.drop_zero, List.drop_nil]
            refine fac_quiet 0 rfl rfl rfl (fun _ _ h _ => h) rfl rfl ?_
            apply Exists.intro
            refine ⟨fun sv w' hw' hfa => ?_, ?_⟩
            · refine ⟨rfl, ?_⟩
              simp only [putsL]
              change quietTo _ _ _ _ (Sem.run _ (execOp (Act.eval _) _) _)
              try simp only [Act.put, List.setIfInBounds_toArray, List.set_cons_succ, List.set_cons_zero]
              simp [go_sem, quietTo, Ext.refl]
              all_goals first
                | rfl
            refine fac_quiet 1 rfl rfl rfl (fun _ _ h _ => h) rfl rfl ?_
            apply Exists.intro
            refine ⟨fun sv w' hw' hfa => ?_, ?_⟩
            · obtain ⟨f0, -⟩ := hfa
              replace f0 : sv 0 = _ := f0
              try dsimp only at f0
              have hk9 := (Ext.refl y1).drew.trans hw'; obtain ⟨z1, -⟩ := (hB1.ext hk9).walk
              refine ⟨rfl, ?_⟩
              simp only [putsL]
              change quietTo _ _ _ _ (Sem.run _ (execOp (Act.eval (Act.put _ (some 68) (sv 0))) _) _)
              try simp only [Act.put, List.setIfInBounds_toArray, List.set_cons_succ, List.set_cons_zero]
              simp [go_sem, quietTo, Ext.refl, ↓IntWalk.iteOmega, f0]
              all_goals try simp (disch := omega) only [IntWalk.i64_in]
              all_goals first
                | rfl
                | (exact hf1.out _ (hy1.trans hk9))
            refine fac_quiet 2 rfl rfl rfl (fun _ _ h _ => h) rfl rfl ?_
            apply Exists.intro
            refine ⟨fun sv w' hw' hfa => ?_, ?_⟩
            · have hk9 := (Ext.refl y1).drew.trans hw'; obtain ⟨z1, -⟩ := (hB1.ext hk9).walk
              refine ⟨rfl, ?_⟩
              simp only [putsL]
              change quietTo _ _ _ _ (Sem.run _ (execOp (Act.eval _) _) _)
              try simp only [Act.put, List.setIfInBounds_toArray, List.set_cons_succ, List.set_cons_zero]
              simp [go_sem, quietTo, Ext.refl, ↓IntWalk.iteOmega, z1]
              all_goals try simp (disch := omega) only [IntWalk.i64_in]
              all_goals first
                | rfl
            refine fac_quiet 3 rfl rfl rfl (fun _ _ h _ => h) rfl rfl ?_
            apply Exists.intro
            refine ⟨fun sv w' hw' hfa => ?_, ?_⟩
            · obtain ⟨f2, -⟩ := hfa
              replace f2 : sv 2 = _ := f2
              try dsimp only at f2
              have hk9 := (Ext.refl y1).drew.trans hw'; obtain ⟨z1, -⟩ := (hB1.ext hk9).walk
              refine ⟨rfl, ?_⟩
              simp only [putsL]
              change quietTo _ _ _ _ (Sem.run _ (execOp (Act.eval (Act.put _ (some 70) (sv 2))) _) _)
              try simp only [Act.put, List.setIfInBounds_toArray, List.set_cons_succ, List.set_cons_zero]
              simp [go_sem, quietTo, Ext.refl, ↓IntWalk.iteOmega, f2]
              all_goals try simp (disch := omega) only [IntWalk.i64_in]
              all_goals first
                | rfl
                | (exact hf2.out _ (hy1.trans hk9))
            refine fac_row 4 rfl rfl rfl (fun _ _ h _ => h) (fun _ _ h => h.size) (fun _ _ _ _ _ he _ hb => hb.ext he) ?_
            apply Exists.intro
            apply Exists.intro
            apply Exists.intro
            apply Exists.intro
            refine ⟨fun sv w' hw' hfa => ?_, ?_⟩
            · obtain ⟨_, f1, _, f3, -⟩ := hfa
              replace f1 : sv 1 = _ := f1
              try dsimp only at f1
              replace f3 : sv 3 = _ := f3
              try dsimp only at f3
              refine ⟨rfl, ?_⟩
              simp only [putsL]
              change rowTo _ _ _ _ _ (Sem.run _ (execOp (Act.eval (Act.put (Act.put (Act.put (Act.put _ (some 71) (sv 3)) (some 70) (sv 2)) (some 69) (sv 1)) (some 68) (sv 0))) _) _)
              try simp only [Act.put, List.setIfInBounds_toArray, List.set_cons_succ, List.set_cons_zero]
              simp [go_sem, rowTo, Ext.refl, f1, f3]
              all_goals try simp (disch := omega) only [IntWalk.i64_in]
              all_goals first
                | rfl
                | exact ⟨rfl, rfl⟩
                | exact ⟨⟨rfl, rfl⟩, rfl⟩
            refine fac_quiet 5 rfl rfl rfl (fun _ _ h _ => h) rfl rfl ?_
            apply Exists.intro
            refine ⟨fun sv w' hw' hfa => ?_, ?_⟩
            · obtain ⟨f0, f1, f2, f3, f4, -⟩ := hfa
              replace f0 : sv 0 = _ := f0
              try dsimp only at f0
              replace f1 : sv 1 = _ := f1
              try dsimp only at f1
              replace f2 : sv 2 = _ := f2
              try dsimp only at f2
              replace f3 : sv 3 = _ := f3
              try dsimp only at f3
              obtain ⟨g4, f4, l4, b4⟩ := f4
              replace f4 : sv 4 = _ := f4
              obtain ⟨p4, q4⟩ := b4.walk
              have hk9 := (Ext.refl y1).drew.trans hw'; obtain ⟨z1, -⟩ := (hB1.ext hk9).walk
              refine ⟨rfl, ?_⟩
              simp only [putsL]
              change quietTo _ _ _ _ (Sem.run _ (execOp (Act.eval (Act.put (Act.put (Act.put (Act.put (Act.put _ (some 72) (sv 4)) (some 71) (sv 3)) (some 70) (sv 2)) (some 69) (sv 1)) (some 68) (sv 0))) _) _)
              try simp only [Act.put, List.setIfInBounds_toArray, List.set_cons_succ, List.set_cons_zero]
              simp [go_sem, quietTo, Ext.refl, ↓IntWalk.iteOmega, f4, p4, q4]
              all_goals try simp (disch := omega) only [IntWalk.i64_in]
              all_goals first
                | rfl
                | (exact (orErr_blk _ _ 2 [peopleF P, stageF wide high] _ (by simp) b4).mono fun _ _ h => ⟨h.1, h.2 ▸ Ext.refl _⟩)
            refine fac_nil fun xq wrq herq hfrq hcrq holdq hapq => ?_
            obtain ⟨f0, f1, f2, f3, f4, f5, -⟩ := hfrq
            replace f0 : xq 0 = _ := f0
            try dsimp only at f0
            replace f1 : xq 1 = _ := f1
            try dsimp only at f1
            replace f2 : xq 2 = _ := f2
            try dsimp only at f2
            replace f3 : xq 3 = _ := f3
            try dsimp only at f3
            obtain ⟨g4, f4, l4, b4⟩ := f4
            replace f4 : xq 4 = _ := f4
            obtain ⟨p4, q4⟩ := b4.walk
            replace f5 : xq 5 = _ := f5
            try dsimp only at f5
            change wpList _ _ _ _ (Act.put (Act.put (Act.put (Act.put (Act.put (Act.put _ (some 68) (xq 0)) (some 69) (xq 1)) (some 70) (xq 2)) (some 71) (xq 3)) (some 72) (xq 4)) (some 73) (xq 5)) _
            simp only [putsL, Nat.reduceAdd, List.drop_succ_cons, List.drop_zero, List.drop_nil, Act.put, List.setIfInBounds_toArray, List.set_cons_succ, List.set_cons_zero]
            try simp only [f0, f1, f2, f3, f4, f5]
            clear f0 f1 f2 f3 f5
            clear holdq hapq
            have hkq := hy1.trans ((Ext.refl y1).drew.trans herq)
            rw [hos.out]
            clear hf1 hf2 hos hle herq hB1
            generalize ostF P wide high = of at *
            go_wp2_with (go_at_call 11; (with_reducible refine Calls.mono (stood_any _) ?_); rintro e y5 ⟨rfl, hy5⟩)
            go_ret
            exact ⟨rfl, hE.trans (hkq.trans hy5)⟩
end Go.Proofs.YtfbegdcmnfkhgaaGreatDoor
