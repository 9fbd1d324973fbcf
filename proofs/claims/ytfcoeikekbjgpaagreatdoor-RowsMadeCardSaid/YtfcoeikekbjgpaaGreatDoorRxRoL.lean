/- How many of each section stand in a row: the document's walk. Conditions: sizes. -/
import Derived.Test.YtfcoeikekbjgpaaGreatDoorRxRoH
set_option linter.unusedSimpArgs false
set_option linter.unusedVariables false
namespace Go.Proofs.YtfcoeikekbjgpaaGreatDoor
open Go Go.RowKit Go.Sort

theorem own_of_rowI {w : World} {g : Nat} {xs : List Int} (h : Blk w g 3 (rowI xs)) {base n : Nat} (hl : xs.length = n) (hb : base ≤ g) (hn : n ≤ 1000) : w.ownsRow base 3 1 (.slice (some ⟨g, 0, none⟩) n n) n (xs.flatMap intC) := by
  have e : xs.flatMap intC = xs.map (Value.int .i64) := by
    clear hl h
    induction xs with
    | nil => rfl
    | cons a l ih => rw [List.flatMap_cons, ih]; rfl
  rw [e]
  have hm : (xs.map (Value.int .i64)).length = n * 1 := by rw [List.length_map, hl, Nat.mul_one]
  exact ⟨hm, .inr ⟨g, n, rowI xs, rfl, hb, h, Nat.le_refl _, Nat.le_trans hn (by decide), by rw [rowI]; simpa using hm, by rw [rowI, Nat.mul_one, ← hl, ← List.length_map (f := Value.int .i64)]; exact List.take_length⟩⟩

set_option maxRecDepth 100000 in
set_option maxHeartbeats 12800000 in
theorem rShares_any {n : Nat} {sp : Option Addr} {sc : Nat} {A : List Int} {lp : Option Addr} {lc : Nat} {Lf : List Int} {w : World} (h : Slc 1 intC w sp A.length sc A) (hn : n ≤ 1000) (hk : A.length ≤ 19) (ha : ∀ a ∈ A, 0 ≤ a) (hs : 0 < A.sum) (hs1 : A.sum ≤ 1000) (hL : Slc 1 intC w lp Lf.length lc Lf) (hll : Lf.length = A.length) (hL0 : ∀ a ∈ Lf, 0 ≤ a) (hL1 : ∀ a ∈ Lf, a ≤ 1000) :
    Calls Tryz.prog 52 #[.int .i64 n, .slice sp A.length sc, .slice lp Lf.length lc] w fun e w' => ∃ g, e = .returned (.slice (some ⟨g, 0, none⟩) A.length A.length) ∧ w.heap.size ≤ g ∧ Blk w' g 3 (rowI (shrL n A Lf)) ∧ Ext w w' := by
  have hp0 : Blk (((w.alloc (.cells #[.int .i64 n] 3)).alloc (.cells #[.slice sp A.length sc] 22)).alloc (.cells #[.int .i64 0] 3)) w.heap.size 3 #[.int .i64 n] := ((Blk.new' rfl).alloc _).alloc _
  have hq0 : Blk (((w.alloc (.cells #[.int .i64 n] 3)).alloc (.cells #[.slice sp A.length sc] 22)).alloc (.cells #[.int .i64 0] 3)) (w.heap.size + 1) 22 #[.slice sp A.length sc] := (Blk.new' (by simp)).alloc _
  have hr0 : Blk (((w.alloc (.cells #[.int .i64 n] 3)).alloc (.cells #[.slice sp A.length sc] 22)).alloc (.cells #[.int .i64 0] 3)) (w.heap.size + 1 + 1) 3 #[.int .i64 0] := Blk.new' (by simp)
  have hE0 : Ext w (((w.alloc (.cells #[.int .i64 n] 3)).alloc (.cells #[.slice sp A.length sc] 22)).alloc (.cells #[.int .i64 0] 3)) := (((Ext.refl _).alloc _).alloc _).alloc _
  have hkI : (A.length : Int) ≤ 19 := by omega
  go_enter Tryz.func52, Tryz.ntmps52
  go_upto_region 2 with fail
  change Code.wp _ _ _ _ (((w.alloc (.cells #[.int .i64 n] 3)).alloc (.cells #[.slice sp A.length sc] 22)).alloc (.cells #[.int .i64 0] 3))
  have hz0 : (((w.alloc (.cells #[.int .i64 n] 3)).alloc (.cells #[.slice sp A.length sc] 22)).alloc (.cells #[.int .i64 0] 3)).heap.size = w.heap.size + 1 + 1 + 1 := by simp
  generalize ((w.alloc (.cells #[.int .i64 n] 3)).alloc (.cells #[.slice sp A.length sc] 22)).alloc (.cells #[.int .i64 0] 3) = W at *
  obtain ⟨gp, hgp⟩ : ∃ gp, gp = w.heap.size := ⟨_, rfl⟩
  obtain ⟨gs, hgs⟩ : ∃ gs, gs = w.heap.size + 1 := ⟨_, rfl⟩
  obtain ⟨ga, hga⟩ : ∃ ga, ga = w.heap.size + 1 + 1 := ⟨_, rfl⟩
  have hord : w.heap.size ≤ gp ∧ gp < gs ∧ gs < ga ∧ ga < W.heap.size := by omega
  rw [← hgs] at hq0
  rw [← hga] at hr0
  rw [← hgp] at hp0
  rw [← hga, ← hgs, ← hgp]
  clear hz0 hgp hgs hga
  obtain ⟨i1, i2, i3, i4⟩ := hord
  obtain ⟨y1, -⟩ := hp0.walk
  obtain ⟨y2, -⟩ := hq0.walk
  obtain ⟨y3, -⟩ := hr0.walk
  have yl1 := hp0.lt
  have yl2 := hq0.lt
  go_wp2
  go_loopw [22] (fun v17 wr => ∃ j : Nat, v17 = .int .i64 j ∧ j ≤ A.length ∧ Blk wr gp 3 #[.int .i64 n] ∧ Blk wr gs 22 #[.slice sp A.length sc] ∧ Blk wr ga 3 #[.int .i64 ((A.take j).sum)] ∧ Ext w wr) (fun v17 _ => A.length - (intOf v17).toNat)
  case atStart => exact ⟨0, rfl, Nat.zero_le _, hp0, hq0, by simpa using hr0, hE0⟩
  case round =>
    clear hp0 hq0 hr0 hE0 y1 y2 y3 yl1 yl2 i4
    obtain ⟨j, rfl, hj, hp, hq, hr, hE⟩ := hrel
    have hrl := hr.lt
    obtain ⟨b1, b2⟩ := take_nonneg ha j
    by_cases hlt : j < A.length
    · obtain ⟨x, hx⟩ := getD_some (rfl : A.length = A.length) hlt
      have hjI : (j : Int) < A.length := by omega
      rcases (slcC h).2 with ⟨-, e⟩ | ⟨b, off, rfl, hb, hEl⟩
      · rw [e] at hx; cases hx
      have c0 := (hEl.ext hE hb).int hx
      have lb := Nat.lt_of_lt_of_le hb hE.size
      have hsn := sum_snoc hx
      obtain ⟨b3, b4⟩ := take_nonneg ha (j + 1)
      have x0 := ha x (List.mem_of_getElem? hx)
      rw [hsn] at b3 b4
      generalize (A.take j).sum = s1 at *
      replace hsn := Lib.hid hsn
      obtain ⟨r1, r2⟩ := hr.walk
      clear hEl hx
      go_wp2
      go_roundw
      case rel => exact ⟨j + 1, by go_num, by omega, hp.far (by simp only; omega) _, hq.far (by simp only; omega) _, (hr.set_ 0 _).cast (by rw [hsn.out]; simp), hE.setCell (by simp only; omega) _⟩
      case measure => simp [intOf]; omega
    · obtain rfl : j = A.length := by omega
      rw [List.take_length] at hr b1 b2
      have hz := hE.size
      have hmk := fun u => make_int A.length (by omega) u
      obtain ⟨z1, -⟩ := hp.walk
      obtain ⟨z2, -⟩ := hq.walk
      obtain ⟨z3, -⟩ := hr.walk
      have zl1 := hp.lt
      have zl2 := hq.lt
      go_upto_region 7 with fail
      refine wp_region_facts [] [([], false, false), ([0], false, false), ([0, 1], false, true), ([], false, false), ([3], false, false), ([3, 4], false, true), ([], false, false), ([0, 1, 2], false, false), ([3, 4, 5], false, false), ([6], false, false)] (Ext) Ext (fun _ => True) (by kernel_rfl) (by kernel_rfl) Ext.refl (fun _ _ _ => Ext.trans) (fun _ _ h => h) (fun _ _ h => h.size) (fun _ _ h _ => h) trivial ?_
      dsimp only [List.length_cons, List.length_nil, List.drop_succ_cons, List.drop_zero, List.drop_nil]
      refine fac_quiet 0 rfl rfl rfl (fun _ _ h _ => h) rfl rfl ?_
      apply Exists.intro
      refine ⟨fun sv w' hw' hfa => ?_, ?_⟩
      · have hk9 := (Ext.refl wr).drew.trans hw'; obtain ⟨z1, -⟩ := (hp.ext hk9).walk; obtain ⟨z2, -⟩ := (hq.ext hk9).walk
        refine ⟨rfl, ?_⟩
        simp only [putsL]
        change quietTo _ _ _ _ (Sem.run _ (execOp (Act.eval _) _) _)
        try simp only [Act.put, List.setIfInBounds_toArray, List.set_cons_succ, List.set_cons_zero]
        simp [go_sem, quietTo, Ext.refl, ↓IntWalk.iteOmega, hmk, z1, z2]
        all_goals try simp (disch := omega) only [IntWalk.i64_in]
        all_goals first
          | rfl
      refine fac_quiet 1 rfl rfl rfl (fun _ _ h _ => h) rfl rfl ?_
      apply Exists.intro
      refine ⟨fun sv w' hw' hfa => ?_, ?_⟩
      · obtain ⟨f0, -⟩ := hfa
        replace f0 : sv 0 = _ := f0
        try dsimp only at f0
        have hk9 := (Ext.refl wr).drew.trans hw'; obtain ⟨z1, -⟩ := (hp.ext hk9).walk; obtain ⟨z2, -⟩ := (hq.ext hk9).walk
        refine ⟨rfl, ?_⟩
        simp only [putsL]
        change quietTo _ _ _ _ (Sem.run _ (execOp (Act.eval (Act.put _ (some 30) (sv 0))) _) _)
        try simp only [Act.put, List.setIfInBounds_toArray, List.set_cons_succ, List.set_cons_zero]
        simp [go_sem, quietTo, Ext.refl, ↓IntWalk.iteOmega, f0, hmk, z1, z2]
        all_goals try simp (disch := omega) only [IntWalk.i64_in]
        all_goals first
          | rfl
      refine fac_row 2 rfl rfl rfl (fun _ _ h _ => h) (fun _ _ h => h.size) (fun _ _ _ _ _ he _ hb => hb.ext he) ?_
      apply Exists.intro
      apply Exists.intro
      apply Exists.intro
      apply Exists.intro
      refine ⟨fun sv w' hw' hfa => ?_, ?_⟩
      · obtain ⟨f0, f1, -⟩ := hfa
        replace f0 : sv 0 = _ := f0
        try dsimp only at f0
        replace f1 : sv 1 = _ := f1
        try dsimp only at f1
        have hk9 := (Ext.refl wr).drew.trans hw'; obtain ⟨z1, -⟩ := (hp.ext hk9).walk; obtain ⟨z2, -⟩ := (hq.ext hk9).walk
        refine ⟨rfl, ?_⟩
        simp only [putsL]
        change rowTo _ _ _ _ _ (Sem.run _ (execOp (Act.eval (Act.put (Act.put _ (some 31) (sv 1)) (some 30) (sv 0))) _) _)
        try simp only [Act.put, List.setIfInBounds_toArray, List.set_cons_succ, List.set_cons_zero]
        simp [go_sem, rowTo, Ext.refl, ↓IntWalk.iteOmega, f1, hmk, z1, z2]
        all_goals try simp (disch := omega) only [IntWalk.i64_in]
        all_goals first
          | rfl
          | exact ⟨rfl, rfl⟩
          | exact ⟨⟨rfl, rfl⟩, rfl⟩
      refine fac_quiet 3 rfl rfl rfl (fun _ _ h _ => h) rfl rfl ?_
      apply Exists.intro
      refine ⟨fun sv w' hw' hfa => ?_, ?_⟩
      · have hk9 := (Ext.refl wr).drew.trans hw'; obtain ⟨z1, -⟩ := (hp.ext hk9).walk; obtain ⟨z2, -⟩ := (hq.ext hk9).walk
        refine ⟨rfl, ?_⟩
        simp only [putsL]
        change quietTo _ _ _ _ (Sem.run _ (execOp (Act.eval _) _) _)
        try simp only [Act.put, List.setIfInBounds_toArray, List.set_cons_succ, List.set_cons_zero]
        simp [go_sem, quietTo, Ext.refl, ↓IntWalk.iteOmega, hmk, z1, z2]
        all_goals try simp (disch := omega) only [IntWalk.i64_in]
        all_goals first
          | rfl
      refine fac_quiet 4 rfl rfl rfl (fun _ _ h _ => h) rfl rfl ?_
      apply Exists.intro
      refine ⟨fun sv w' hw' hfa => ?_, ?_⟩
      · obtain ⟨f3, -⟩ := hfa
        replace f3 : sv 3 = _ := f3
        try dsimp only at f3
        have hk9 := (Ext.refl wr).drew.trans hw'; obtain ⟨z1, -⟩ := (hp.ext hk9).walk; obtain ⟨z2, -⟩ := (hq.ext hk9).walk
        refine ⟨rfl, ?_⟩
        simp only [putsL]
        change quietTo _ _ _ _ (Sem.run _ (execOp (Act.eval (Act.put _ (some 33) (sv 3))) _) _)
        try simp only [Act.put, List.setIfInBounds_toArray, List.set_cons_succ, List.set_cons_zero]
        simp [go_sem, quietTo, Ext.refl, ↓IntWalk.iteOmega, f3, hmk, z1, z2]
        all_goals try simp (disch := omega) only [IntWalk.i64_in]
        all_goals first
          | rfl
      refine fac_row 5 rfl rfl rfl (fun _ _ h _ => h) (fun _ _ h => h.size) (fun _ _ _ _ _ he _ hb => hb.ext he) ?_
      apply Exists.intro
      apply Exists.intro
      apply Exists.intro
      apply Exists.intro
      refine ⟨fun sv w' hw' hfa => ?_, ?_⟩
      · obtain ⟨f3, f4, -⟩ := hfa
        replace f3 : sv 3 = _ := f3
        try dsimp only at f3
        replace f4 : sv 4 = _ := f4
        try dsimp only at f4
        have hk9 := (Ext.refl wr).drew.trans hw'; obtain ⟨z1, -⟩ := (hp.ext hk9).walk; obtain ⟨z2, -⟩ := (hq.ext hk9).walk
        refine ⟨rfl, ?_⟩
        simp only [putsL]
        change rowTo _ _ _ _ _ (Sem.run _ (execOp (Act.eval (Act.put (Act.put _ (some 34) (sv 4)) (some 33) (sv 3))) _) _)
        try simp only [Act.put, List.setIfInBounds_toArray, List.set_cons_succ, List.set_cons_zero]
        simp [go_sem, rowTo, Ext.refl, ↓IntWalk.iteOmega, f4, hmk, z1, z2]
        all_goals try simp (disch := omega) only [IntWalk.i64_in]
        all_goals first
          | rfl
          | exact ⟨rfl, rfl⟩
          | exact ⟨⟨rfl, rfl⟩, rfl⟩
      refine fac_quiet 6 rfl rfl rfl (fun _ _ h _ => h) rfl rfl ?_
      apply Exists.intro
      refine ⟨fun sv w' hw' hfa => ?_, ?_⟩
      · have hk9 := (Ext.refl wr).drew.trans hw'; obtain ⟨z1, -⟩ := (hp.ext hk9).walk; obtain ⟨z2, -⟩ := (hq.ext hk9).walk
        refine ⟨rfl, ?_⟩
        simp only [putsL]
        change quietTo _ _ _ _ (Sem.run _ (execOp (Act.eval _) _) _)
        try simp only [Act.put, List.setIfInBounds_toArray, List.set_cons_succ, List.set_cons_zero]
        simp [go_sem, quietTo, Ext.refl, ↓IntWalk.iteOmega, hmk, z1, z2]
        all_goals try simp (disch := omega) only [IntWalk.i64_in]
        all_goals first
          | rfl
      refine fac_via 7 rfl rfl 2 (fun g => .slice (some ⟨g, 0, none⟩) A.length A.length) (fun _ _ h => by simpa using h) (by decide) rfl (fun _ _ h _ => h) ?_ ?_
      · intro sv w' hfa
        obtain ⟨f0, f1, f2, -⟩ := hfa
        replace f0 : sv 0 = _ := f0
        try dsimp only at f0
        replace f1 : sv 1 = _ := f1
        try dsimp only at f1
        obtain ⟨g2, f2, l2, b2⟩ := f2
        replace f2 : sv 2 = _ := f2
        obtain ⟨p2, q2⟩ := b2.walk
        exact ⟨_, f2⟩
      apply Exists.intro
      refine ⟨fun sv w' g hw' hfa hgi => ?_, ?_⟩
      · obtain ⟨f0, f1, f2, -⟩ := hfa
        replace f0 : sv 0 = _ := f0
        try dsimp only at f0
        replace f1 : sv 1 = _ := f1
        try dsimp only at f1
        obtain ⟨g2, f2, l2, b2⟩ := f2
        replace f2 : sv 2 = _ := f2
        obtain ⟨p2, q2⟩ := b2.walk
        have hgg := f2.symm.trans hgi
        simp only [Value.slice.injEq, Value.pointer.injEq, Option.some.injEq, Addr.mk.injEq, and_true] at hgg
        subst hgg
        have hk9 := (Ext.refl wr).drew.trans hw'; obtain ⟨z1, -⟩ := (hp.ext hk9).walk; obtain ⟨z2, -⟩ := (hq.ext hk9).walk
        refine ⟨rfl, ?_⟩
        simp only [putsL]
        change quietTo _ _ _ _ (Sem.run _ (execOp (Act.eval (Act.put (Act.put (Act.put _ (some 32) (sv 2)) (some 31) (sv 1)) (some 30) (sv 0))) _) _)
        try simp only [Act.put, List.setIfInBounds_toArray, List.set_cons_succ, List.set_cons_zero]
        simp [go_sem, quietTo, Ext.refl, f2]
        all_goals try simp (disch := omega) only [IntWalk.i64_in]
        all_goals first
          | rfl
      refine fac_via 8 rfl rfl 5 (fun g => .slice (some ⟨g, 0, none⟩) A.length A.length) (fun _ _ h => by simpa using h) (by decide) rfl (fun _ _ h _ => h) ?_ ?_
      · intro sv w' hfa
        obtain ⟨f3, f4, f5, -⟩ := hfa
        replace f3 : sv 3 = _ := f3
        try dsimp only at f3
        replace f4 : sv 4 = _ := f4
        try dsimp only at f4
        obtain ⟨g5, f5, l5, b5⟩ := f5
        replace f5 : sv 5 = _ := f5
        obtain ⟨p5, q5⟩ := b5.walk
        exact ⟨_, f5⟩
      apply Exists.intro
      refine ⟨fun sv w' g hw' hfa hgi => ?_, ?_⟩
      · obtain ⟨f3, f4, f5, -⟩ := hfa
        replace f3 : sv 3 = _ := f3
        try dsimp only at f3
        replace f4 : sv 4 = _ := f4
        try dsimp only at f4
        obtain ⟨g5, f5, l5, b5⟩ := f5
        replace f5 : sv 5 = _ := f5
        obtain ⟨p5, q5⟩ := b5.walk
        have hgg := f5.symm.trans hgi
        simp only [Value.slice.injEq, Value.pointer.injEq, Option.some.injEq, Addr.mk.injEq, and_true] at hgg
        subst hgg
        have hk9 := (Ext.refl wr).drew.trans hw'; obtain ⟨z1, -⟩ := (hp.ext hk9).walk; obtain ⟨z2, -⟩ := (hq.ext hk9).walk
        refine ⟨rfl, ?_⟩
        simp only [putsL]
        change quietTo _ _ _ _ (Sem.run _ (execOp (Act.eval (Act.put (Act.put (Act.put _ (some 35) (sv 5)) (some 34) (sv 4)) (some 33) (sv 3))) _) _)
        try simp only [Act.put, List.setIfInBounds_toArray, List.set_cons_succ, List.set_cons_zero]
        simp [go_sem, quietTo, Ext.refl, f5]
        all_goals try simp (disch := omega) only [IntWalk.i64_in]
        all_goals first
          | rfl
      refine fac_quiet 9 rfl rfl rfl (fun _ _ h _ => h) rfl rfl ?_
      apply Exists.intro
      refine ⟨fun sv w' hw' hfa => ?_, ?_⟩
      · obtain ⟨f6, -⟩ := hfa
        replace f6 : sv 6 = _ := f6
        try dsimp only at f6
        refine ⟨rfl, ?_⟩
        simp only [putsL]
        change quietTo _ _ _ _ (Sem.run _ (execOp (Act.eval (Act.put _ (some 36) (sv 6))) _) _)
        try simp only [Act.put, List.setIfInBounds_toArray, List.set_cons_succ, List.set_cons_zero]
        simp [go_sem, quietTo, Ext.refl, f6]
        all_goals first
          | rfl
      refine fac_nil fun x7 wr7 her7 hfr7 hcr7 hold7 hap7 => ?_
      obtain ⟨f0, f1, f2, f3, f4, f5, f6, f7, f8, f9, -⟩ := hfr7
      replace f0 : x7 0 = _ := f0
      try dsimp only at f0
      replace f1 : x7 1 = _ := f1
      try dsimp only at f1
      obtain ⟨g2, f2, l2, b2⟩ := f2
      replace f2 : x7 2 = _ := f2
      obtain ⟨p2, q2⟩ := b2.walk
      replace f3 : x7 3 = _ := f3
      try dsimp only at f3
      replace f4 : x7 4 = _ := f4
      try dsimp only at f4
      obtain ⟨g5, f5, l5, b5⟩ := f5
      replace f5 : x7 5 = _ := f5
      obtain ⟨p5, q5⟩ := b5.walk
      replace f6 : x7 6 = _ := f6
      try dsimp only at f6
      replace f7 : x7 7 = _ := f7 _ f2
      try dsimp only at f7
      replace f8 : x7 8 = _ := f8 _ f5
      try dsimp only at f8
      replace f9 : x7 9 = _ := f9
      try dsimp only at f9
      change wpList _ _ _ _ (Act.put (Act.put (Act.put (Act.put (Act.put (Act.put (Act.put (Act.put (Act.put (Act.put _ (some 30) (x7 0)) (some 31) (x7 1)) (some 32) (x7 2)) (some 33) (x7 3)) (some 34) (x7 4)) (some 35) (x7 5)) (some 36) (x7 6)) (some 10) (x7 7)) (some 11) (x7 8)) (some 12) (x7 9)) _
      simp only [putsL, Nat.reduceAdd, List.drop_succ_cons, List.drop_zero, List.drop_nil, Act.put, List.setIfInBounds_toArray, List.set_cons_succ, List.set_cons_zero]
      try simp only [f0, f1, f2, f3, f4, f5, f6, f7, f8, f9]
      clear f0 f1 f3 f4 f6 f9
      have hne : g2 ≠ g5 := fun e => hap7 2 5 (by simp) (by simp) (by decide) rfl rfl (by rw [f2, f5, e])
      clear hold7 hap7
      have hX7 : Ext wr wr7 := (Ext.refl wr).drew.trans her7
      have hp8 := hp.ext hX7
      have hq8 := hq.ext hX7
      have hr8 := hr.ext hX7
      have hE8 := hE.trans hX7
      have hs2 : ga < g2 := Nat.lt_of_lt_of_le hrl (by simpa using l2)
      have hs5 : ga < g5 := Nat.lt_of_lt_of_le hrl (by simpa using l5)
      clear hmk z1 z2 z3 zl1 zl2 hp hq hr hE hX7 her7 hz hrl l2 l5
      obtain ⟨z1, -⟩ := hp8.walk
      obtain ⟨z2, -⟩ := hq8.walk
      obtain ⟨z3, -⟩ := hr8.walk
      have zl1 := hp8.lt
      have zl2 := hq8.lt
      have zl3 := hr8.lt
      have hbl : (baseL n A).length = A.length := by simp [baseL]
      have hb0 := base_nonneg (n := (n : Int)) (by omega) ha
      have hov := over_bound (n := (n : Int)) hs (by cases A with | nil => simp at hs | cons a A => simp)
      have hil := idxL_len A.length
      go_wp2
      go_loopw [12, 39] (fun v12 v39 wr => ∃ (j : Nat), v39 = .int .i64 j ∧ j ≤ A.length ∧ v12 = .int .i64 (n - ((baseL n A).take j).sum) ∧ Blk wr g2 3 (rowI ((baseL n A).take j ++ (List.replicate A.length (0 : Int)).drop j)) ∧ Blk wr g5 3 (rowI ((idxL A.length).take j ++ (List.replicate A.length (0 : Int)).drop j)) ∧ Blk wr gp 3 #[.int .i64 n] ∧ Blk wr gs 22 #[.slice sp A.length sc] ∧ Blk wr ga 3 #[.int .i64 A.sum] ∧ Ext w wr) (fun _ v39 _ => A.length - (intOf v39).toNat)
      case atStart => exact ⟨0, rfl, Nat.zero_le _, by simp, by simpa using b2, by simpa using b5, hp8, hq8, hr8, hE8⟩
      case round =>
        clear hp8 hq8 hr8 hE8 b2 b5 z1 z2 z3 zl1 zl2 zl3
        obtain ⟨j, rfl, hj, rfl, hB, hD, hp, hq, hr, hE⟩ := hrel
        obtain ⟨b1, b2⟩ := take_nonneg hb0 j
        by_cases hlt : j < A.length
        · obtain ⟨x, hx⟩ := getD_some (rfl : A.length = A.length) hlt
          have hjI : (j : Int) < A.length := by omega
          rcases (slcC h).2 with ⟨-, e⟩ | ⟨b, off, rfl, hb, hEl⟩
          · rw [e] at hx; cases hx
          have c0 := (hEl.ext hE hb).int hx
          have lb := Nat.lt_of_lt_of_le hb hE.size
          have hbx := baseL_at (n := (n : Int)) hx
          have x0 := ha x (List.mem_of_getElem? hx)
          have x1 := (mem_le_sum ha (List.mem_of_getElem? hx)).1
          have bx0 := hb0 _ (List.mem_of_getElem? hbx)
          have bx1 := (mem_le_sum hb0 (List.mem_of_getElem? hbx)).1
          have hsn := sum_snoc hbx
          obtain ⟨b3, b4⟩ := take_nonneg hb0 (j + 1)
          rw [hsn] at b3 b4
          have h0j : (List.replicate A.length (0 : Int))[j]? = some 0 := by rw [List.getElem?_replicate, if_pos hlt]
          have hij : (idxL A.length)[j]? = some (j : Int) := by unfold idxL; rw [List.getElem?_map, List.getElem?_range hlt]; rfl
          have hat := mid_at (ys := baseL n A) (by rw [hbl]; simp) h0j
          have hat5 := mid_at (ys := idxL A.length) (by rw [hil]; simp) h0j
          have hset := set_take_drop (xs := List.replicate A.length (0 : Int)) (by rw [hbl]; simp) hbx
          have hset5 := set_take_drop (xs := List.replicate A.length (0 : Int)) (by rw [hil]; simp) hij
          have c8 := rowI_cell hB hat
          have d8 := rowI_cell hD hat5
          obtain ⟨-, f8⟩ := hB.walk
          obtain ⟨-, e8⟩ := hD.walk
          have l8 := hB.lt
          have m8 := hD.lt
          have hB2 := rowI_set hB j (n * x / A.sum)
          rw [hset] at hB2
          have hD2 := rowI_set (hD.far (p := ⟨g2, j, none⟩) (by simp only; omega) (.int .i64 (n * x / A.sum))) j j
          rw [hset5] at hD2
          have hB3 := hB2.far (p := ⟨g5, j, none⟩) (by simp only; omega) (.int .i64 j)
          have hat2 : ((baseL n A).take (j + 1) ++ (List.replicate A.length (0 : Int)).drop (j + 1))[j]? = some (n * x / A.sum) := by
            rw [List.getElem?_append_left (by rw [List.length_take]; omega), List.getElem?_take_of_lt (by omega)]
            exact hbx
          have c9 := rowI_cell hB3 hat2
          have p1 : 0 ≤ (n : Int) * x ∧ (n : Int) * x ≤ 1000 * 1000 := ⟨Int.mul_nonneg (by omega) x0, Int.mul_le_mul (by omega) (by omega) x0 (by omega)⟩
          have m1 : IntKind.i64.wrap ((n : Int) * x) = (n : Int) * x := IntWalk.i64_in _ (by omega)
          have q1 : ((n : Int) * x).tdiv A.sum = (n : Int) * x / A.sum := Int.tdiv_eq_ediv_of_nonneg p1.1
          have z1 : IntKind.i64.wrap ((n : Int) * x / A.sum) = (n : Int) * x / A.sum := IntWalk.i64_in _ (by omega)
          obtain ⟨r1, -⟩ := hp.walk
          obtain ⟨r2, -⟩ := hr.walk
          have rl1 := hp.lt
          have rl2 := hr.lt
          have hS0 : ¬ A.sum = 0 := by omega
          have hE3 : Ext w ((wr.setCell ⟨g2, j, none⟩ (.int .i64 (n * x / A.sum))).setCell ⟨g5, j, none⟩ (.int .i64 j)) := (hE.setCell (by simp only; omega) _).setCell (by simp only; omega) _
          have hp3 := (hp.far (p := ⟨g2, j, none⟩) (by simp only; omega) (.int .i64 (n * x / A.sum))).far (p := ⟨g5, j, none⟩) (by simp only; omega) (.int .i64 j)
          have hq3 := (hq.far (p := ⟨g2, j, none⟩) (by simp only; omega) (.int .i64 (n * x / A.sum))).far (p := ⟨g5, j, none⟩) (by simp only; omega) (.int .i64 j)
          have hr3 := (hr.far (p := ⟨g2, j, none⟩) (by simp only; omega) (.int .i64 (n * x / A.sum))).far (p := ⟨g5, j, none⟩) (by simp only; omega) (.int .i64 j)
          clear hEl hx hbx hat hat5 hset hset5 hat2 p1 h0j hij hB2
          replace hsn := Lib.hid hsn
          generalize hbv : (n : Int) * x / A.sum = bv at *
          go_upto_region 12 with fail
          clear hp hq hr hB hD hE c0 lb c8 d8 f8 e8 l8 m8 r1 r2 rl1 rl2
          change Code.wp _ _ _ _ ((wr.setCell ⟨g2, j, none⟩ (.int .i64 bv)).setCell ⟨g5, j, none⟩ (.int .i64 j))
          generalize (wr.setCell ⟨g2, j, none⟩ (.int .i64 bv)).setCell ⟨g5, j, none⟩ (.int .i64 j) = W2 at *
          have l9 := hB3.lt
          clear m1 q1 z1 hbv
          go_wp2
          go_roundw
          case rel => exact ⟨j + 1, by go_num, by omega, by rw [hsn.out]; congr 1; omega, hB3, hD2, hp3, hq3, hr3, hE3⟩
          case measure => simp [intOf]; omega
        · obtain rfl : j = A.length := by omega
          have e1 : (baseL n A).take A.length = baseL n A := List.take_of_length_le (by omega)
          have e2 : (List.replicate A.length (0 : Int)).drop A.length = [] := List.drop_eq_nil_of_le (by simp)
          have e3 : (idxL A.length).take A.length = idxL A.length := List.take_of_length_le (by omega)
          rw [e1, e2, List.append_nil] at hB
          rw [e3, e2, List.append_nil] at hD
          rw [e1]
          rw [e1] at b1 b2
          have hown := own_of_rowI (base := w.heap.size) hD hil (by omega) (by omega)
          obtain ⟨m, hm⟩ : ∃ m, A.length = m + 1 := ⟨A.length - 1, by cases A with | nil => simp at hs | cons a A => simp⟩
          rcases (slcC h).2 with ⟨-, e⟩ | ⟨b, off, rfl, hb, hEl⟩
          · rw [e] at hs; simp at hs
          have hcm : CmpM wr gp gs ga n b off (m + 1) sc A := by
            rw [hm] at hq
            exact ⟨hp, hq, hr, fun i x hx => (hEl.ext hE hb).int hx, by omega, by omega, hs, hs1, ha, hm, by have := h.2.1; omega⟩
          have hso := refSort (base := w.heap.size) (g := g5) (cap := A.length) (m := m) (w := wr) (by rw [← hm]; exact hown) (by omega) hcm ⟨by omega, by omega, by omega, by omega⟩ (Nat.lt_of_lt_of_le hb hE.size)
          rw [← hm] at hso
          obtain ⟨o, hoe⟩ : ∃ o : Nat, (n : Int) - (baseL n A).sum = o := ⟨((n : Int) - (baseL n A).sum).toNat, by omega⟩
          rw [hoe]
          have hok : o < A.length := by omega
          have hcl := hD.lt
          replace hso := Lib.hid hso
          have hol := ordL_len n A
          have hom := fun (x : Int) (hx : x ∈ ordL n A) => ordL_mem hx
          have hpt := fun (q : Nat) (hq : q ≤ A.length) => partsT_ok (n := (n : Int)) (by omega) ha q hq
          have hps := fun (q : Nat) (x : Int) (hx : (ordL n A)[q]? = some x) => partsT_succ hx
          have hpl : partsL n A = partsT n A o := by unfold partsL overN; rw [hoe]; simp
          have hp0 : partsT n A 0 = baseL n A := by simp [partsT]
          have hbs : (baseL n A).sum ≤ n := by omega
          have hPL := partsL_ok (n := (n : Int)) (by omega) ha hs
          have hsk : ShOk (n : Int) A Lf := ⟨by omega, ha, hs, hL0, hll⟩
          replace hom := Lib.hid hom
          replace hpt := Lib.hid hpt
          replace hps := Lib.hid hps
          replace hpl := Lib.hid hpl
          replace hp0 := Lib.hid hp0
          replace hol := Lib.hid hol
          replace hPL := Lib.hid hPL
          replace hsk := Lib.hid hsk
          replace hL := Lib.hid hL
          replace hL0 := Lib.hid hL0
          replace hL1 := Lib.hid hL1
          have hocI : (o : Int) ≤ A.length := by omega
          clear hown hcm hEl hm hoe e1 e2 e3 hov hb0 hbl hil hq hr h hb
          go_upto_region 15 with (go_at_call 81; (with_reducible refine Calls.mono hso.out ?_); rintro e Wq ⟨rfl, hSq, hgq⟩)
          have hBq : Blk Wq g2 3 (rowI (partsT n A 0)) := by
            rw [hp0.out]
            exact (hgq.block g2 hB.lt fun e => hne (by simpa using e)).trans hB
          have hpq : Blk Wq gp 3 #[.int .i64 n] := (hgq.block gp hp.lt fun e => by have : gp = g5 := (by simpa using e); omega).trans hp
          have hEq : Ext w Wq := hE.grown hgq fun q e => by cases e; omega
          clear hB hE hso hgq hD hp hcl
          replace hSq := Lib.hid hSq
          go_wp2
          go_loopw [70] (fun v70 wr => ∃ j : Nat, v70 = .int .i64 j ∧ j ≤ o ∧ Blk wr g2 3 (rowI (partsT n A j)) ∧ Ext w wr ∧ ExtS g2 Wq wr) (fun v70 _ => o - (intOf v70).toNat)
          case atStart => exact ⟨0, rfl, Nat.zero_le _, hBq, hEq, ExtS.refl _ _⟩
          case round =>
            clear hBq hEq
            obtain ⟨j, rfl, hj, hB, hE, hX⟩ := hrel
            by_cases hlt : j < o
            · obtain ⟨x, hx⟩ := getD_some hol.out (show j < A.length by omega)
              have hjI : (j : Int) < o := by omega
              obtain ⟨i, rfl, hi⟩ := hom.out x (List.mem_of_getElem? hx)
              rcases (slcC (hSq.out.extS hX fun a e => by cases e; simp only; omega)).2 with ⟨-, e⟩ | ⟨b9, o9, e9, hb9, hEl⟩
              · rw [e] at hx; cases hx
              cases e9
              have c0 := hEl.int hx
              rw [Nat.zero_add] at c0
              obtain ⟨pl, pn, psm⟩ := hpt.out j (by omega)
              obtain ⟨y, hy⟩ := getD_some pl hi
              have y0 := pn y (List.mem_of_getElem? hy)
              have y1 := (mem_le_sum pn (List.mem_of_getElem? hy)).1
              rw [psm] at y1
              have c8 := rowI_cell hB hy
              obtain ⟨-, f8⟩ := hB.walk
              have l8 := hB.lt
              have hB2 := rowI_set hB i (y + 1)
              have hst : partsT n A (j + 1) = (partsT n A j).set i (y + 1) := by
                rw [hps.out j _ hx]
                unfold incL
                rw [Int.toNat_natCast, List.getD_eq_getElem?_getD, hy]
                rfl
              have hiI : (i : Int) < A.length := by omega
              replace hst := Lib.hid hst
              clear hx hy hEl psm pn pl hB
              go_wp2
              go_roundw
              case rel => exact ⟨j + 1, by go_num, by omega, by rw [hst.out]; exact hB2, hE.setCell (by simp only; omega) _, hX.setCell (p := ⟨g2, i, none⟩) (.inl rfl) _⟩
              case measure => simp [intOf]; omega
            · obtain rfl : j = o := by omega
              rw [← hpl.out] at hB
              have hpw := hpq.extS (by omega) hX
              obtain ⟨q1, q2, q3⟩ := hsk.out.cap
              obtain ⟨p1, p2, p3⟩ := hPL.out
              have hca := fun (k : Nat) (x y : Int) (h1 : (partsL n A)[k]? = some x) (h2 : Lf[k]? = some y) => capL_at h1 h2
              have hfin : shrL n A Lf = shL Lf (capL (partsL n A) Lf) (n - (capL (partsL n A) Lf).sum) := rfl
              obtain ⟨z1, -⟩ := hpw.walk
              have zl1 := hpw.lt
              have hg2w := hB.lt
              clear hSq hX hsk hPL hpl hp0 hps hpt hom hol hbs hpq hpw hocI b1 b2
              generalize capL (partsL n A) Lf = C at *
              generalize partsL n A = P at *
              have hcn : ∀ c ∈ C, 0 ≤ c := fun c hc => by
                obtain ⟨i, hi, e⟩ := List.getElem_of_mem hc
                exact (q3 i c (by rw [List.getElem?_eq_getElem hi, e])).1
              have hCl : C.length = A.length := by omega
              replace hca := Lib.hid hca
              replace hfin := Lib.hid hfin
              replace q3 := Lib.hid q3
              replace hcn := Lib.hid hcn
              replace p2 := Lib.hid p2
              replace hll := Lib.hid hll
              replace p1 := Lib.hid p1
              replace hCl := Lib.hid hCl
              replace q1 := Lib.hid q1
              go_wp2
              go_loopw [12, 84] (fun v12 v84 wr => ∃ (j : Nat), v84 = .int .i64 j ∧ j ≤ A.length ∧ v12 = .int .i64 (n - (C.take j).sum) ∧ Blk wr g2 3 (rowI (C.take j ++ P.drop j)) ∧ Ext w wr) (fun _ v84 _ => A.length - (intOf v84).toNat)
              case atStart => exact ⟨0, rfl, Nat.zero_le _, by simp, by simpa using hB, hE⟩
              case round =>
                clear hB hE z1 zl1 hg2w
                obtain ⟨j, rfl, hj, rfl, hB, hE⟩ := hrel
                obtain ⟨b1, b2⟩ := take_nonneg hcn.out j
                by_cases hlt : j < A.length
                · obtain ⟨x, hx⟩ := getD_some p1.out hlt
                  obtain ⟨y, hy⟩ := getD_some hll.out hlt
                  have hcx := hca.out j x y hx hy
                  have hjI : (j : Int) < A.length := by omega
                  have hjL : (j : Int) < Lf.length := by have := hll.out; omega
                  rcases (slcC hL.out).2 with ⟨-, e⟩ | ⟨b, off, rfl, hb, hEl⟩
                  · rw [e] at hy; cases hy
                  have c0 := (hEl.ext hE hb).int hy
                  have lb := Nat.lt_of_lt_of_le hb hE.size
                  have x0 := p2.out x (List.mem_of_getElem? hx)
                  have y0 := hL0.out y (List.mem_of_getElem? hy)
                  have hsn := sum_snoc hcx
                  obtain ⟨b3, b4⟩ := take_nonneg hcn.out (j + 1)
                  rw [hsn] at b3 b4
                  have hat := mid_at (ys := C) (by rw [hCl.out, p1.out]) hx
                  have hset := set_take_drop (xs := P) (by rw [hCl.out, p1.out]) hcx
                  have c8 := rowI_cell hB hat
                  have l8 := hB.lt
                  generalize hmin : min x y = c at *
                  have hcc : 0 ≤ c ∧ c ≤ 1000 := by have := hL1.out y (List.mem_of_getElem? hy); omega
                  have hat2 : (C.take (j + 1) ++ P.drop (j + 1))[j]? = some c := by
                    rw [List.getElem?_append_left (by rw [List.length_take, hCl.out]; omega), List.getElem?_take_of_lt (by omega)]
                    exact hcx
                  replace hset := Lib.hid hset
                  replace hat2 := Lib.hid hat2
                  replace hsn := Lib.hid hsn
                  clear hx hy hcx hat hEl
                  go_upto_region 24 with fail
                  refine wp_region_facts [] [([], false, false), ([], false, false), ([], false, false), ([], false, false), ([2, 3], false, false), ([2, 3, 4], false, false), ([], false, false), ([], false, false), ([6, 7], false, false), ([6, 7, 8], false, false), ([2, 3, 4, 5, 6, 7, 8, 9], false, false)] (Ext) Ext (fun _ => True) (by kernel_rfl) (by kernel_rfl) Ext.refl (fun _ _ _ => Ext.trans) (fun _ _ h => h) (fun _ _ h => h.size) (fun _ _ h _ => h) trivial ?_
                  dsimp only [List.length_cons, List.length_nil, List.drop_succ_cons, List.drop_zero, List.drop_nil]
                  refine fac_quiet 0 rfl rfl rfl (fun _ _ h _ => h) rfl rfl ?_
                  apply Exists.intro
                  refine ⟨fun sv w' hw' hfa => ?_, ?_⟩
                  · refine ⟨rfl, ?_⟩
                    simp only [putsL]
                    change quietTo _ _ _ _ (Sem.run _ (execOp (Act.eval _) _) _)
                    try simp only [Act.put, List.setIfInBounds_toArray, List.set_cons_succ, List.set_cons_zero]
                    simp [go_sem, quietTo, Ext.refl]
                    all_goals first
                      | rfl
                  refine fac_quiet 1 rfl rfl rfl (fun _ _ h _ => h) rfl rfl ?_
                  apply Exists.intro
                  refine ⟨fun sv w' hw' hfa => ?_, ?_⟩
                  · refine ⟨rfl, ?_⟩
                    simp only [putsL]
                    change quietTo _ _ _ _ (Sem.run _ (execOp (Act.eval _) _) _)
                    try simp only [Act.put, List.setIfInBounds_toArray, List.set_cons_succ, List.set_cons_zero]
                    simp [go_sem, quietTo, Ext.refl]
                    all_goals first
                      | rfl
                  refine fac_quiet 2 rfl rfl rfl (fun _ _ h _ => h) rfl rfl ?_
                  apply Exists.intro
                  refine ⟨fun sv w' hw' hfa => ?_, ?_⟩
                  · refine ⟨rfl, ?_⟩
                    simp only [putsL]
                    change quietTo _ _ _ _ (Sem.run _ (execOp (Act.eval _) _) _)
                    try simp only [Act.put, List.setIfInBounds_toArray, List.set_cons_succ, List.set_cons_zero]
                    simp [go_sem, quietTo, Ext.refl]
                    all_goals first
                      | rfl
                  refine fac_quiet 3 rfl rfl rfl (fun _ _ h _ => h) rfl rfl ?_
                  apply Exists.intro
                  refine ⟨fun sv w' hw' hfa => ?_, ?_⟩
                  · refine ⟨rfl, ?_⟩
                    simp only [putsL]
                    change quietTo _ _ _ _ (Sem.run _ (execOp (Act.eval _) _) _)
                    try simp only [Act.put, List.setIfInBounds_toArray, List.set_cons_succ, List.set_cons_zero]
                    simp [go_sem, quietTo, Ext.refl]
                    all_goals first
                      | rfl
                  refine fac_quiet 4 rfl rfl rfl (fun _ _ h _ => h) rfl rfl ?_
                  apply Exists.intro
                  refine ⟨fun sv w' hw' hfa => ?_, ?_⟩
                  · obtain ⟨f2, f3, -⟩ := hfa
                    replace f2 : sv 2 = _ := f2
                    try dsimp only at f2
                    replace f3 : sv 3 = _ := f3
                    try dsimp only at f3
                    have hk9 := (Ext.refl wr).drew.trans hw'; have y8 := (hk9.walk.1 _ _ l8).trans c8; have y9 := (hk9.walk.1 _ _ lb).trans c0
                    refine ⟨rfl, ?_⟩
                    simp only [putsL]
                    change quietTo _ _ _ _ (Sem.run _ (execOp (Act.eval (Act.put (Act.put _ (some 90) (sv 3)) (some 89) (sv 2))) _) _)
                    try simp only [Act.put, List.setIfInBounds_toArray, List.set_cons_succ, List.set_cons_zero]
                    simp [go_sem, quietTo, Ext.refl, ↓IntWalk.iteOmega, f2, f3, hjI]
                    all_goals try simp (disch := omega) only [IntWalk.i64_in]
                    all_goals first
                      | rfl
                  refine fac_quiet 5 rfl rfl rfl (fun _ _ h _ => h) rfl rfl ?_
                  apply Exists.intro
                  refine ⟨fun sv w' hw' hfa => ?_, ?_⟩
                  · obtain ⟨_, _, f4, -⟩ := hfa
                    replace f4 : sv 4 = _ := f4
                    try dsimp only at f4
                    have hk9 := (Ext.refl wr).drew.trans hw'; have y8 := (hk9.walk.1 _ _ l8).trans c8; have y9 := (hk9.walk.1 _ _ lb).trans c0
                    refine ⟨rfl, ?_⟩
                    simp only [putsL]
                    change quietTo _ _ _ _ (Sem.run _ (execOp (Act.eval (Act.put (Act.put (Act.put _ (some 91) (sv 4)) (some 90) (sv 3)) (some 89) (sv 2))) _) _)
                    try simp only [Act.put, List.setIfInBounds_toArray, List.set_cons_succ, List.set_cons_zero]
                    simp [go_sem, quietTo, Ext.refl, ↓IntWalk.iteOmega, f4, y8]
                    all_goals try simp (disch := omega) only [IntWalk.i64_in]
                    all_goals first
                      | rfl
                  refine fac_quiet 6 rfl rfl rfl (fun _ _ h _ => h) rfl rfl ?_
                  apply Exists.intro
                  refine ⟨fun sv w' hw' hfa => ?_, ?_⟩
                  · refine ⟨rfl, ?_⟩
                    simp only [putsL]
                    change quietTo _ _ _ _ (Sem.run _ (execOp (Act.eval _) _) _)
                    try simp only [Act.put, List.setIfInBounds_toArray, List.set_cons_succ, List.set_cons_zero]
                    simp [go_sem, quietTo, Ext.refl]
                    all_goals first
                      | rfl
                  refine fac_quiet 7 rfl rfl rfl (fun _ _ h _ => h) rfl rfl ?_
                  apply Exists.intro
                  refine ⟨fun sv w' hw' hfa => ?_, ?_⟩
                  · refine ⟨rfl, ?_⟩
                    simp only [putsL]
                    change quietTo _ _ _ _ (Sem.run _ (execOp (Act.eval _) _) _)
                    try simp only [Act.put, List.setIfInBounds_toArray, List.set_cons_succ, List.set_cons_zero]
                    simp [go_sem, quietTo, Ext.refl]
                    all_goals first
                      | rfl
                  refine fac_quiet 8 rfl rfl rfl (fun _ _ h _ => h) rfl rfl ?_
                  apply Exists.intro
                  refine ⟨fun sv w' hw' hfa => ?_, ?_⟩
                  · obtain ⟨f6, f7, -⟩ := hfa
                    replace f6 : sv 6 = _ := f6
                    try dsimp only at f6
                    replace f7 : sv 7 = _ := f7
                    try dsimp only at f7
                    have hk9 := (Ext.refl wr).drew.trans hw'; have y8 := (hk9.walk.1 _ _ l8).trans c8; have y9 := (hk9.walk.1 _ _ lb).trans c0
                    refine ⟨rfl, ?_⟩
                    simp only [putsL]
                    change quietTo _ _ _ _ (Sem.run _ (execOp (Act.eval (Act.put (Act.put _ (some 94) (sv 7)) (some 93) (sv 6))) _) _)
                    try simp only [Act.put, List.setIfInBounds_toArray, List.set_cons_succ, List.set_cons_zero]
                    simp [go_sem, quietTo, Ext.refl, ↓IntWalk.iteOmega, f6, f7, hjL]
                    all_goals try simp (disch := omega) only [IntWalk.i64_in]
                    all_goals first
                      | rfl
                  refine fac_quiet 9 rfl rfl rfl (fun _ _ h _ => h) rfl rfl ?_
                  apply Exists.intro
                  refine ⟨fun sv w' hw' hfa => ?_, ?_⟩
                  · obtain ⟨_, _, f8, -⟩ := hfa
                    replace f8 : sv 8 = _ := f8
                    try dsimp only at f8
                    have hk9 := (Ext.refl wr).drew.trans hw'; have y8 := (hk9.walk.1 _ _ l8).trans c8; have y9 := (hk9.walk.1 _ _ lb).trans c0
                    refine ⟨rfl, ?_⟩
                    simp only [putsL]
                    change quietTo _ _ _ _ (Sem.run _ (execOp (Act.eval (Act.put (Act.put (Act.put _ (some 95) (sv 8)) (some 94) (sv 7)) (some 93) (sv 6))) _) _)
                    try simp only [Act.put, List.setIfInBounds_toArray, List.set_cons_succ, List.set_cons_zero]
                    simp [go_sem, quietTo, Ext.refl, ↓IntWalk.iteOmega, f8, y9]
                    all_goals try simp (disch := omega) only [IntWalk.i64_in]
                    all_goals first
                      | rfl
                  refine fac_quiet 10 rfl rfl rfl (fun _ _ h _ => h) rfl rfl ?_
                  apply Exists.intro
                  refine ⟨fun sv w' hw' hfa => ?_, ?_⟩
                  · obtain ⟨_, _, _, f5, _, _, _, f9, -⟩ := hfa
                    replace f5 : sv 5 = _ := f5
                    try dsimp only at f5
                    replace f9 : sv 9 = _ := f9
                    try dsimp only at f9
                    have hk9 := (Ext.refl wr).drew.trans hw'; have y8 := (hk9.walk.1 _ _ l8).trans c8; have y9 := (hk9.walk.1 _ _ lb).trans c0
                    refine ⟨rfl, ?_⟩
                    simp only [putsL]
                    change quietTo _ _ _ _ (Sem.run _ (execOp (Act.eval (Act.put (Act.put (Act.put (Act.put (Act.put (Act.put (Act.put (Act.put _ (some 96) (sv 9)) (some 95) (sv 8)) (some 94) (sv 7)) (some 93) (sv 6)) (some 92) (sv 5)) (some 91) (sv 4)) (some 90) (sv 3)) (some 89) (sv 2))) _) _)
                    try simp only [Act.put, List.setIfInBounds_toArray, List.set_cons_succ, List.set_cons_zero]
                    simp [go_sem, quietTo, Ext.refl, ↓IntWalk.iteOmega, f5, f9, hmin]
                    all_goals try simp (disch := omega) only [IntWalk.i64_in]
                    all_goals first
                      | rfl
                  refine fac_nil fun xq wrq herq hfrq hcrq holdq hapq => ?_
                  obtain ⟨f0, f1, f2, f3, f4, f5, f6, f7, f8, f9, f10, -⟩ := hfrq
                  replace f0 : xq 0 = _ := f0
                  try dsimp only at f0
                  replace f1 : xq 1 = _ := f1
                  try dsimp only at f1
                  replace f2 : xq 2 = _ := f2
                  try dsimp only at f2
                  replace f3 : xq 3 = _ := f3
                  try dsimp only at f3
                  replace f4 : xq 4 = _ := f4
                  try dsimp only at f4
                  replace f5 : xq 5 = _ := f5
                  try dsimp only at f5
                  replace f6 : xq 6 = _ := f6
                  try dsimp only at f6
                  replace f7 : xq 7 = _ := f7
                  try dsimp only at f7
                  replace f8 : xq 8 = _ := f8
                  try dsimp only at f8
                  replace f9 : xq 9 = _ := f9
                  try dsimp only at f9
                  replace f10 : xq 10 = _ := f10
                  try dsimp only at f10
                  change wpList _ _ _ _ (Act.put (Act.put (Act.put (Act.put (Act.put (Act.put (Act.put (Act.put (Act.put (Act.put (Act.put _ (some 87) (xq 0)) (some 88) (xq 1)) (some 89) (xq 2)) (some 90) (xq 3)) (some 91) (xq 4)) (some 92) (xq 5)) (some 93) (xq 6)) (some 94) (xq 7)) (some 95) (xq 8)) (some 96) (xq 9)) (some 97) (xq 10)) _
                  simp only [putsL, Nat.reduceAdd, List.drop_succ_cons, List.drop_zero, List.drop_nil, Act.put, List.setIfInBounds_toArray, List.set_cons_succ, List.set_cons_zero]
                  try simp only [f0, f1, f2, f3, f4, f5, f6, f7, f8, f9, f10]
                  clear f0 f1 f2 f3 f4 f5 f6 f7 f8 f9 f10
                  clear holdq hapq
                  have hkq := (Ext.refl wr).drew.trans herq
                  have hBq := hB.ext hkq
                  have c7 := (hkq.walk.1 _ _ l8).trans c8
                  obtain ⟨-, f7⟩ := hBq.walk
                  have l7 := hBq.lt
                  have hB2 := rowI_set hBq j c
                  rw [hset.out] at hB2
                  have hE2 := (hE.trans hkq).setCell (p := ⟨g2, j, none⟩) (by simp only; omega) (.int .i64 c)
                  clear hB hE hkq herq hBq c0 c8 l8 lb
                  go_upto_region 25 with fail
                  obtain ⟨W8, hW8⟩ : ∃ W, W = wrq.setCell ⟨g2, j, none⟩ (.int .i64 c) := ⟨_, rfl⟩
                  change Code.wp _ _ _ _ (wrq.setCell ⟨g2, j, none⟩ (.int .i64 c))
                  rw [← hW8] at hB2 hE2
                  rw [← hW8]
                  clear hW8 f7 l7 c7
                  have c9 := rowI_cell hB2 hat2.out
                  have l9 := hB2.lt
                  go_wp2
                  go_roundw
                  case rel => exact ⟨j + 1, by go_num, by omega, by rw [hsn.out]; congr 1; omega, hB2, hE2⟩
                  case measure => simp [intOf]; omega
                · obtain rfl : j = A.length := by omega
                  have e1 : C.take A.length = C := List.take_of_length_le (by rw [hCl.out]; exact Nat.le_refl _)
                  have e2 : P.drop A.length = [] := List.drop_eq_nil_of_le (by rw [p1.out]; exact Nat.le_refl _)
                  rw [e1, e2, List.append_nil] at hB
                  rw [e1]
                  rw [e1] at b1 b2
                  clear e1 e2 hca p2 p1 p3
                  have hov := ovT_ok (Lf := Lf) (C := C) q2 q1.out q3.out
                  have hmt := fun (k : Nat) (c y : Int) (hc : C[k]? = some c) (hy : Lf[k]? = some y) => mT_ok q2 q1.out q3.out hc hy
                  have hsl := shL_len Lf C ((n : Int) - C.sum)
                  generalize hOV : (n : Int) - C.sum = OV at *
                  have hov0 : ovT Lf C OV 0 = OV := rfl
                  replace hov := Lib.hid hov
                  replace hmt := Lib.hid hmt
                  replace hsl := Lib.hid hsl
                  replace hov0 := Lib.hid hov0
                  have hOV2 : OV ≤ 1000 := by omega
                  go_wp2
                  go_loopw [12, 108] (fun v12 v108 wr => ∃ (j : Nat), v108 = .int .i64 j ∧ j ≤ A.length ∧ v12 = .int .i64 (ovT Lf C OV j) ∧ Blk wr g2 3 (rowI ((shL Lf C OV).take j ++ C.drop j)) ∧ Ext w wr) (fun _ v108 _ => A.length - (intOf v108).toNat)
                  case atStart => exact ⟨0, rfl, Nat.zero_le _, by rw [hov0.out], by simpa using hB, hE⟩
                  case round =>
                    clear hB hE
                    obtain ⟨j, rfl, hj, rfl, hB, hE⟩ := hrel
                    obtain ⟨o0, o1, -⟩ := hov.out j (by rw [hCl.out]; omega)
                    by_cases hlt : j < A.length
                    · obtain ⟨c, hc⟩ := getD_some hCl.out hlt
                      obtain ⟨y, hy⟩ := getD_some hll.out hlt
                      have hjI : (j : Int) < A.length := by omega
                      have hjL : (j : Int) < Lf.length := by have := hll.out; omega
                      rcases (slcC hL.out).2 with ⟨-, e⟩ | ⟨b, off, rfl, hb, hEl⟩
                      · rw [e] at hy; cases hy
                      have c0 := (hEl.ext hE hb).int hy
                      have lb := Nat.lt_of_lt_of_le hb hE.size
                      have y0 := hL0.out y (List.mem_of_getElem? hy)
                      have y1 := hL1.out y (List.mem_of_getElem? hy)
                      obtain ⟨cv0, -⟩ := q3.out j c hc
                      obtain ⟨m0, m1, m2⟩ := hmt.out j c y hc hy
                      have hshj : (shL Lf C OV)[j]? = some (c + mT Lf C OV j) := shL_at hc
                      have hos := ovT_succ Lf C OV j
                      have hov1 := (hov.out (j + 1) (by rw [hCl.out]; omega)).1
                      rw [hos] at hov1
                      have hat := mid_at (ys := shL Lf C OV) (by rw [hsl.out]) hc
                      have hset := set_take_drop (xs := C) (by rw [hsl.out]) hshj
                      have c8 := rowI_cell hB hat
                      have l8 := hB.lt
                      generalize ovT Lf C OV j = ovj at *
                      generalize mT Lf C OV j = mj at *
                      have hw9 : IntKind.i64.wrap (y - c) = y - c := IntWalk.i64_in _ (by omega)
                      have hmin : min ovj (y - c) = mj := m2.symm
                      replace hset := Lib.hid hset
                      replace hos := Lib.hid hos
                      clear hc hy hat hEl hshj m2
                      go_upto_region 30 with fail
                      refine wp_region_facts [] [([], false, false), ([], false, false), ([], false, false), ([1, 2], false, false), ([1, 2, 3], false, false), ([], false, false), ([], false, false), ([5, 6], false, false), ([5, 6, 7], false, false), ([1, 2, 3, 4, 5, 6, 7, 8], false, false), ([0, 1, 2, 3, 4, 5, 6, 7, 8, 9], false, false), ([0, 1, 2, 3, 4, 5, 6, 7, 8, 9, 10], false, false)] (Ext) Ext (fun _ => True) (by kernel_rfl) (by kernel_rfl) Ext.refl (fun _ _ _ => Ext.trans) (fun _ _ h => h) (fun _ _ h => h.size) (fun _ _ h _ => h) trivial ?_
                      dsimp only [List.length_cons, List.length_nil, List.drop_succ_cons, List.drop_zero, List.drop_nil]
                      refine fac_quiet 0 rfl rfl rfl (fun _ _ h _ => h) rfl rfl ?_
                      apply Exists.intro
                      refine ⟨fun sv w' hw' hfa => ?_, ?_⟩
                      · refine ⟨rfl, ?_⟩
                        simp only [putsL]
                        change quietTo _ _ _ _ (Sem.run _ (execOp (Act.eval _) _) _)
                        try simp only [Act.put, List.setIfInBounds_toArray, List.set_cons_succ, List.set_cons_zero]
                        simp [go_sem, quietTo, Ext.refl]
                        all_goals first
                          | rfl
                      refine fac_quiet 1 rfl rfl rfl (fun _ _ h _ => h) rfl rfl ?_
                      apply Exists.intro
                      refine ⟨fun sv w' hw' hfa => ?_, ?_⟩
                      · refine ⟨rfl, ?_⟩
                        simp only [putsL]
                        change quietTo _ _ _ _ (Sem.run _ (execOp (Act.eval _) _) _)
                        try simp only [Act.put, List.setIfInBounds_toArray, List.set_cons_succ, List.set_cons_zero]
                        simp [go_sem, quietTo, Ext.refl]
                        all_goals first
                          | rfl
                      refine fac_quiet 2 rfl rfl rfl (fun _ _ h _ => h) rfl rfl ?_
                      apply Exists.intro
                      refine ⟨fun sv w' hw' hfa => ?_, ?_⟩
                      · refine ⟨rfl, ?_⟩
                        simp only [putsL]
                        change quietTo _ _ _ _ (Sem.run _ (execOp (Act.eval _) _) _)
                        try simp only [Act.put, List.setIfInBounds_toArray, List.set_cons_succ, List.set_cons_zero]
                        simp [go_sem, quietTo, Ext.refl]
                        all_goals first
                          | rfl
                      refine fac_quiet 3 rfl rfl rfl (fun _ _ h _ => h) rfl rfl ?_
                      apply Exists.intro
                      refine ⟨fun sv w' hw' hfa => ?_, ?_⟩
                      · obtain ⟨f1, f2, -⟩ := hfa
                        replace f1 : sv 1 = _ := f1
                        try dsimp only at f1
                        replace f2 : sv 2 = _ := f2
                        try dsimp only at f2
                        have hk9 := (Ext.refl wr).drew.trans hw'; have y8 := (hk9.walk.1 _ _ l8).trans c8; have y9 := (hk9.walk.1 _ _ lb).trans c0
                        refine ⟨rfl, ?_⟩
                        simp only [putsL]
                        change quietTo _ _ _ _ (Sem.run _ (execOp (Act.eval (Act.put (Act.put _ (some 113) (sv 2)) (some 112) (sv 1))) _) _)
                        try simp only [Act.put, List.setIfInBounds_toArray, List.set_cons_succ, List.set_cons_zero]
                        simp [go_sem, quietTo, Ext.refl, ↓IntWalk.iteOmega, f1, f2, hjL]
                        all_goals try simp (disch := omega) only [IntWalk.i64_in]
                        all_goals first
                          | rfl
                      refine fac_quiet 4 rfl rfl rfl (fun _ _ h _ => h) rfl rfl ?_
                      apply Exists.intro
                      refine ⟨fun sv w' hw' hfa => ?_, ?_⟩
                      · obtain ⟨_, _, f3, -⟩ := hfa
                        replace f3 : sv 3 = _ := f3
                        try dsimp only at f3
                        have hk9 := (Ext.refl wr).drew.trans hw'; have y8 := (hk9.walk.1 _ _ l8).trans c8; have y9 := (hk9.walk.1 _ _ lb).trans c0
                        refine ⟨rfl, ?_⟩
                        simp only [putsL]
                        change quietTo _ _ _ _ (Sem.run _ (execOp (Act.eval (Act.put (Act.put (Act.put _ (some 114) (sv 3)) (some 113) (sv 2)) (some 112) (sv 1))) _) _)
                        try simp only [Act.put, List.setIfInBounds_toArray, List.set_cons_succ, List.set_cons_zero]
                        simp [go_sem, quietTo, Ext.refl, ↓IntWalk.iteOmega, f3, y9]
                        all_goals try simp (disch := omega) only [IntWalk.i64_in]
                        all_goals first
                          | rfl
                      refine fac_quiet 5 rfl rfl rfl (fun _ _ h _ => h) rfl rfl ?_
                      apply Exists.intro
                      refine ⟨fun sv w' hw' hfa => ?_, ?_⟩
                      · refine ⟨rfl, ?_⟩
                        simp only [putsL]
                        change quietTo _ _ _ _ (Sem.run _ (execOp (Act.eval _) _) _)
                        try simp only [Act.put, List.setIfInBounds_toArray, List.set_cons_succ, List.set_cons_zero]
                        simp [go_sem, quietTo, Ext.refl]
                        all_goals first
                          | rfl
                      refine fac_quiet 6 rfl rfl rfl (fun _ _ h _ => h) rfl rfl ?_
                      apply Exists.intro
                      refine ⟨fun sv w' hw' hfa => ?_, ?_⟩
                      · refine ⟨rfl, ?_⟩
                        simp only [putsL]
                        change quietTo _ _ _ _ (Sem.run _ (execOp (Act.eval _) _) _)
                        try simp only [Act.put, List.setIfInBounds_toArray, List.set_cons_succ, List.set_cons_zero]
                        simp [go_sem, quietTo, Ext.refl]
                        all_goals first
                          | rfl
                      refine fac_quiet 7 rfl rfl rfl (fun _ _ h _ => h) rfl rfl ?_
                      apply Exists.intro
                      refine ⟨fun sv w' hw' hfa => ?_, ?_⟩
                      · obtain ⟨f5, f6, -⟩ := hfa
                        replace f5 : sv 5 = _ := f5
                        try dsimp only at f5
                        replace f6 : sv 6 = _ := f6
                        try dsimp only at f6
                        have hk9 := (Ext.refl wr).drew.trans hw'; have y8 := (hk9.walk.1 _ _ l8).trans c8; have y9 := (hk9.walk.1 _ _ lb).trans c0
                        refine ⟨rfl, ?_⟩
                        simp only [putsL]
                        change quietTo _ _ _ _ (Sem.run _ (execOp (Act.eval (Act.put (Act.put _ (some 117) (sv 6)) (some 116) (sv 5))) _) _)
                        try simp only [Act.put, List.setIfInBounds_toArray, List.set_cons_succ, List.set_cons_zero]
                        simp [go_sem, quietTo, Ext.refl, ↓IntWalk.iteOmega, f5, f6, hjI]
                        all_goals try simp (disch := omega) only [IntWalk.i64_in]
                        all_goals first
                          | rfl
                      refine fac_quiet 8 rfl rfl rfl (fun _ _ h _ => h) rfl rfl ?_
                      apply Exists.intro
                      refine ⟨fun sv w' hw' hfa => ?_, ?_⟩
                      · obtain ⟨_, _, f7, -⟩ := hfa
                        replace f7 : sv 7 = _ := f7
                        try dsimp only at f7
                        have hk9 := (Ext.refl wr).drew.trans hw'; have y8 := (hk9.walk.1 _ _ l8).trans c8; have y9 := (hk9.walk.1 _ _ lb).trans c0
                        refine ⟨rfl, ?_⟩
                        simp only [putsL]
                        change quietTo _ _ _ _ (Sem.run _ (execOp (Act.eval (Act.put (Act.put (Act.put _ (some 118) (sv 7)) (some 117) (sv 6)) (some 116) (sv 5))) _) _)
                        try simp only [Act.put, List.setIfInBounds_toArray, List.set_cons_succ, List.set_cons_zero]
                        simp [go_sem, quietTo, Ext.refl, ↓IntWalk.iteOmega, f7, y8]
                        all_goals try simp (disch := omega) only [IntWalk.i64_in]
                        all_goals first
                          | rfl
                      refine fac_quiet 9 rfl rfl rfl (fun _ _ h _ => h) rfl rfl ?_
                      apply Exists.intro
                      refine ⟨fun sv w' hw' hfa => ?_, ?_⟩
                      · obtain ⟨_, _, _, f4, _, _, _, f8, -⟩ := hfa
                        replace f4 : sv 4 = _ := f4
                        try dsimp only at f4
                        replace f8 : sv 8 = _ := f8
                        try dsimp only at f8
                        have hk9 := (Ext.refl wr).drew.trans hw'; have y8 := (hk9.walk.1 _ _ l8).trans c8; have y9 := (hk9.walk.1 _ _ lb).trans c0
                        refine ⟨rfl, ?_⟩
                        simp only [putsL]
                        change quietTo _ _ _ _ (Sem.run _ (execOp (Act.eval (Act.put (Act.put (Act.put (Act.put (Act.put (Act.put (Act.put (Act.put _ (some 119) (sv 8)) (some 118) (sv 7)) (some 117) (sv 6)) (some 116) (sv 5)) (some 115) (sv 4)) (some 114) (sv 3)) (some 113) (sv 2)) (some 112) (sv 1))) _) _)
                        try simp only [Act.put, List.setIfInBounds_toArray, List.set_cons_succ, List.set_cons_zero]
                        simp [go_sem, quietTo, Ext.refl, ↓IntWalk.iteOmega, f4, f8, hw9]
                        all_goals try simp (disch := omega) only [IntWalk.i64_in]
                        all_goals first
                          | rfl
                      refine fac_quiet 10 rfl rfl rfl (fun _ _ h _ => h) rfl rfl ?_
                      apply Exists.intro
                      refine ⟨fun sv w' hw' hfa => ?_, ?_⟩
                      · obtain ⟨f0, _, _, _, _, _, _, _, _, f9, -⟩ := hfa
                        replace f0 : sv 0 = _ := f0
                        try dsimp only at f0
                        replace f9 : sv 9 = _ := f9
                        try dsimp only at f9
                        have hk9 := (Ext.refl wr).drew.trans hw'; have y8 := (hk9.walk.1 _ _ l8).trans c8; have y9 := (hk9.walk.1 _ _ lb).trans c0
                        refine ⟨rfl, ?_⟩
                        simp only [putsL]
                        change quietTo _ _ _ _ (Sem.run _ (execOp (Act.eval (Act.put (Act.put (Act.put (Act.put (Act.put (Act.put (Act.put (Act.put (Act.put (Act.put _ (some 120) (sv 9)) (some 119) (sv 8)) (some 118) (sv 7)) (some 117) (sv 6)) (some 116) (sv 5)) (some 115) (sv 4)) (some 114) (sv 3)) (some 113) (sv 2)) (some 112) (sv 1)) (some 111) (sv 0))) _) _)
                        try simp only [Act.put, List.setIfInBounds_toArray, List.set_cons_succ, List.set_cons_zero]
                        simp [go_sem, quietTo, Ext.refl, ↓IntWalk.iteOmega, f0, f9, hmin]
                        all_goals try simp (disch := omega) only [IntWalk.i64_in]
                        all_goals first
                          | rfl
                      refine fac_quiet 11 rfl rfl rfl (fun _ _ h _ => h) rfl rfl ?_
                      apply Exists.intro
                      refine ⟨fun sv w' hw' hfa => ?_, ?_⟩
                      · obtain ⟨_, _, _, _, _, _, _, _, _, _, f10, -⟩ := hfa
                        replace f10 : sv 10 = _ := f10
                        try dsimp only at f10
                        refine ⟨rfl, ?_⟩
                        simp only [putsL]
                        change quietTo _ _ _ _ (Sem.run _ (execOp (Act.eval (Act.put (Act.put (Act.put (Act.put (Act.put (Act.put (Act.put (Act.put (Act.put (Act.put (Act.put _ (some 121) (sv 10)) (some 120) (sv 9)) (some 119) (sv 8)) (some 118) (sv 7)) (some 117) (sv 6)) (some 116) (sv 5)) (some 115) (sv 4)) (some 114) (sv 3)) (some 113) (sv 2)) (some 112) (sv 1)) (some 111) (sv 0))) _) _)
                        try simp only [Act.put, List.setIfInBounds_toArray, List.set_cons_succ, List.set_cons_zero]
                        simp [go_sem, quietTo, Ext.refl, f10]
                        all_goals first
                          | rfl
                      refine fac_nil fun xq wrq herq hfrq hcrq holdq hapq => ?_
                      obtain ⟨f0, f1, f2, f3, f4, f5, f6, f7, f8, f9, f10, f11, -⟩ := hfrq
                      replace f0 : xq 0 = _ := f0
                      try dsimp only at f0
                      replace f1 : xq 1 = _ := f1
                      try dsimp only at f1
                      replace f2 : xq 2 = _ := f2
                      try dsimp only at f2
                      replace f3 : xq 3 = _ := f3
                      try dsimp only at f3
                      replace f4 : xq 4 = _ := f4
                      try dsimp only at f4
                      replace f5 : xq 5 = _ := f5
                      try dsimp only at f5
                      replace f6 : xq 6 = _ := f6
                      try dsimp only at f6
                      replace f7 : xq 7 = _ := f7
                      try dsimp only at f7
                      replace f8 : xq 8 = _ := f8
                      try dsimp only at f8
                      replace f9 : xq 9 = _ := f9
                      try dsimp only at f9
                      replace f10 : xq 10 = _ := f10
                      try dsimp only at f10
                      replace f11 : xq 11 = _ := f11
                      try dsimp only at f11
                      change wpList _ _ _ _ (Act.put (Act.put (Act.put (Act.put (Act.put (Act.put (Act.put (Act.put (Act.put (Act.put (Act.put (Act.put _ (some 111) (xq 0)) (some 112) (xq 1)) (some 113) (xq 2)) (some 114) (xq 3)) (some 115) (xq 4)) (some 116) (xq 5)) (some 117) (xq 6)) (some 118) (xq 7)) (some 119) (xq 8)) (some 120) (xq 9)) (some 121) (xq 10)) (some 19) (xq 11)) _
                      simp only [putsL, Nat.reduceAdd, List.drop_succ_cons, List.drop_zero, List.drop_nil, Act.put, List.setIfInBounds_toArray, List.set_cons_succ, List.set_cons_zero]
                      try simp only [f0, f1, f2, f3, f4, f5, f6, f7, f8, f9, f10, f11]
                      clear f0 f1 f2 f3 f4 f5 f6 f7 f8 f9 f10 f11
                      clear holdq hapq
                      have hkq := (Ext.refl wr).drew.trans herq
                      have hBq := hB.ext hkq
                      have c7 := (hkq.walk.1 _ _ l8).trans c8
                      obtain ⟨-, f7⟩ := hBq.walk
                      have l7 := hBq.lt
                      have hB2 := rowI_set hBq j (c + mj)
                      rw [hset.out] at hB2
                      have hE2 := (hE.trans hkq).setCell (p := ⟨g2, j, none⟩) (by simp only; omega) (.int .i64 (c + mj))
                      clear hB hE hkq herq hBq c0 c8 l8 lb hw9 hmin
                      go_wp2
                      go_roundw
                      case rel => exact ⟨j + 1, by go_num, by omega, by rw [hos.out], hB2, hE2⟩
                      case measure => simp [intOf]; omega
                    · obtain rfl : j = A.length := by omega
                      have e1 : (shL Lf C OV).take A.length = shL Lf C OV := List.take_of_length_le (by rw [hsl.out, hCl.out]; exact Nat.le_refl _)
                      have e2 : C.drop A.length = [] := List.drop_eq_nil_of_le (by rw [hCl.out]; exact Nat.le_refl _)
                      rw [e1, e2, List.append_nil, ← hfin.out] at hB
                      go_wp2
                      go_ret
                      exact ⟨g2, rfl, by omega, hB, hE⟩
end Go.Proofs.YtfcoeikekbjgpaaGreatDoor
