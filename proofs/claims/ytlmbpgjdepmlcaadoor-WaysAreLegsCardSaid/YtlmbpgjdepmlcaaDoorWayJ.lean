/- Whether a leg leads from one place of a path to the next. Conditions: as each theorem says. -/
import Derived.Test.YtlmbpgjdepmlcaaDoorWayH
namespace Go.Proofs.YtlmbpgjdepmlcaaDoor
open Go Go.RowKit

def stepB (p0 p1 : ByteArray) (y : LegV) : Bool := (y.fr.toList == p0.toList) && (y.to.toList == p1.toList)
set_option maxRecDepth 100000 in
set_option maxHeartbeats 6400000 in
theorem legs1_any (y : LegV) (P1 I1 pb off k m mc : Nat) (p0 p1 : ByteArray) (W : World) (hP1 : P1 < W.heap.size) (hI1 : I1 < W.heap.size) (hpb : pb < W.heap.size) (hkm : k + 1 < m) (hm : m ≤ 100000) (cP : W.cell? ⟨P1, 0, none⟩ = some (.slice (some ⟨pb, off, none⟩) m mc)) (cI : W.cell? ⟨I1, 0, none⟩ = some (.int .i64 ((k : Int) + 1)))
    (c0 : W.cell? ⟨pb, off + k, none⟩ = some (.string p0)) (c1 : W.cell? ⟨pb, off + (k + 1), none⟩ = some (.string p1)) :
    Calls Tryd.prog 12 #[.agg #[.string y.fr, .string y.to, .int .i64 y.m], .pointer (some ⟨P1, 0, none⟩), .pointer (some ⟨I1, 0, none⟩)] W fun e w' => e = .returned (.bool (stepB p0 p1 y)) ∧ Ext W w' := by
  have hres : stepB p0 p1 y = ((y.fr.toList == p0.toList) && (y.to.toList == p1.toList)) := rfl
  rw [hres]
  clear hres
  have hk1 : ((k : Int) + 1 - 1) = (k : Int) := by omega
  have hk2 : (k : Int) < m := by omega
  have hk3 : IntKind.i64.wrap (k : Int) = k := IntWalk.i64_in _ (by omega)
  have hk4 : ((k : Int) + 1).toNat = k + 1 := by omega
  have hk5 : (k : Int) + 1 < m := by omega
  have hk6 : 0 ≤ (k : Int) + 1 := by omega
  have hA : Blk (W.alloc (.cells #[.string y.fr, .string y.to, .int .i64 y.m] 37)) W.heap.size 37 #[.string y.fr, .string y.to, .int .i64 y.m] := Blk.new' rfl
  have hE1 : Ext W (W.alloc (.cells #[.string y.fr, .string y.to, .int .i64 y.m] 37)) := (Ext.refl W).alloc _
  obtain ⟨hcc, _, _⟩ := hE1.walk
  replace cP := (hcc _ _ hP1).trans cP
  replace cI := (hcc _ _ hI1).trans cI
  replace c0 := (hcc _ _ hpb).trans c0
  replace c1 := (hcc _ _ hpb).trans c1
  have hs1 := hE1.size
  replace hP1 := Nat.lt_of_lt_of_le hP1 hs1
  replace hI1 := Nat.lt_of_lt_of_le hI1 hs1
  replace hpb := Nat.lt_of_lt_of_le hpb hs1
  clear hs1 hcc
  generalize haa : (y.fr.toList == p0.toList) = aa at *
  generalize hbb : (y.to.toList == p1.toList) = bb at *
  go_enter Tryd.func12, Tryd.ntmps12
  cases aa
  · go_upto_region 1 with fail
    generalize W.alloc (.cells #[.string y.fr, .string y.to, .int .i64 y.m] 37) = W1 at *
    refine wp_region_facts [] [([], false, false), ([0], false, false), ([], false, false), ([], false, false), ([3], false, false), ([2, 3, 4], false, false), ([2, 3, 4, 5], false, false), ([0, 1, 2, 3, 4, 5, 6], false, false), ([0, 1, 2, 3, 4, 5, 6, 7], false, false), ([0, 1, 2, 3, 4, 5, 6, 7, 8], false, false), ([0, 1, 2, 3, 4, 5, 6, 7, 8, 9], false, false), ([0, 1, 2, 3, 4, 5, 6, 7, 8], false, false), ([0, 1, 2, 3, 4, 5, 6, 7, 8], false, false), ([0, 1, 2, 3, 4, 5, 6, 7, 8, 11, 12], false, false), ([0, 1, 2, 3, 4, 5, 6, 7, 8, 11, 12, 13], false, false), ([0, 1, 2, 3, 4, 5, 6, 7, 8, 9, 10, 11, 12, 13, 14], false, false), ([0, 1, 2, 3, 4, 5, 6, 7, 8, 9, 10, 11, 12, 13, 14, 15], false, false), ([0, 1, 2, 3, 4, 5, 6, 7, 8, 9, 10, 11, 12, 13, 14, 15, 16], false, false)] (Ext) Ext (fun _ => True) (by kernel_rfl) (by kernel_rfl) Ext.refl (fun _ _ _ => Ext.trans) (fun _ _ h => h) (fun _ _ h => h.size) (fun _ _ h _ => h) trivial ?_
    dsimp only [List.length_cons, List.length_nil, List.drop_succ_cons, List.drop_zero, List.drop_nil]
    refine fac_quiet 0 rfl rfl rfl (fun _ _ h _ => h) rfl rfl ?_
    apply Exists.intro
    refine ⟨fun sv w' hw' hfa => ?_, ?_⟩
    · have hk := (Ext.refl W1).drew.trans hw'; obtain ⟨hc, hff, hz9⟩ := hk.walk; obtain ⟨y0, -⟩ := (hA.ext hk).walk; have y2 := (hc _ _ hP1).trans cP; have y3 := (hc _ _ hI1).trans cI; have y4 := (hc _ _ hpb).trans c0; have y5 := (hc _ _ hpb).trans c1
      refine ⟨rfl, ?_⟩
      simp only [putsL]
      change quietTo _ _ _ _ (Sem.run _ (execOp (Act.eval _) _) _)
      try simp only [Act.put, List.setIfInBounds_toArray, List.set_cons_succ, List.set_cons_zero]
      simp [go_sem, quietTo, Ext.refl]
      all_goals try simp (disch := omega) only [IntWalk.i64_in]
      all_goals first
        | rfl
    refine fac_quiet 1 rfl rfl rfl (fun _ _ h _ => h) rfl rfl ?_
    apply Exists.intro
    refine ⟨fun sv w' hw' hfa => ?_, ?_⟩
    · obtain ⟨f0, -⟩ := hfa
      replace f0 : sv 0 = _ := f0
      try dsimp only at f0
      have hk := (Ext.refl W1).drew.trans hw'; obtain ⟨hc, hff, hz9⟩ := hk.walk; obtain ⟨y0, -⟩ := (hA.ext hk).walk; have y2 := (hc _ _ hP1).trans cP; have y3 := (hc _ _ hI1).trans cI; have y4 := (hc _ _ hpb).trans c0; have y5 := (hc _ _ hpb).trans c1
      refine ⟨rfl, ?_⟩
      simp only [putsL]
      change quietTo _ _ _ _ (Sem.run _ (execOp (Act.eval (Act.put _ (some 5) (sv 0))) _) _)
      try simp only [Act.put, List.setIfInBounds_toArray, List.set_cons_succ, List.set_cons_zero]
      simp [go_sem, quietTo, Ext.refl, ↓IntWalk.iteOmega, f0, y0]
      all_goals try simp (disch := omega) only [IntWalk.i64_in]
      all_goals first
        | rfl
    refine fac_quiet 2 rfl rfl rfl (fun _ _ h _ => h) rfl rfl ?_
    apply Exists.intro
    refine ⟨fun sv w' hw' hfa => ?_, ?_⟩
    · have hk := (Ext.refl W1).drew.trans hw'; obtain ⟨hc, hff, hz9⟩ := hk.walk; obtain ⟨y0, -⟩ := (hA.ext hk).walk; have y2 := (hc _ _ hP1).trans cP; have y3 := (hc _ _ hI1).trans cI; have y4 := (hc _ _ hpb).trans c0; have y5 := (hc _ _ hpb).trans c1
      refine ⟨rfl, ?_⟩
      simp only [putsL]
      change quietTo _ _ _ _ (Sem.run _ (execOp (Act.eval _) _) _)
      try simp only [Act.put, List.setIfInBounds_toArray, List.set_cons_succ, List.set_cons_zero]
      simp [go_sem, quietTo, Ext.refl, ↓IntWalk.iteOmega, y2]
      all_goals try simp (disch := omega) only [IntWalk.i64_in]
      all_goals first
        | rfl
    refine fac_quiet 3 rfl rfl rfl (fun _ _ h _ => h) rfl rfl ?_
    apply Exists.intro
    refine ⟨fun sv w' hw' hfa => ?_, ?_⟩
    · have hk := (Ext.refl W1).drew.trans hw'; obtain ⟨hc, hff, hz9⟩ := hk.walk; obtain ⟨y0, -⟩ := (hA.ext hk).walk; have y2 := (hc _ _ hP1).trans cP; have y3 := (hc _ _ hI1).trans cI; have y4 := (hc _ _ hpb).trans c0; have y5 := (hc _ _ hpb).trans c1
      refine ⟨rfl, ?_⟩
      simp only [putsL]
      change quietTo _ _ _ _ (Sem.run _ (execOp (Act.eval _) _) _)
      try simp only [Act.put, List.setIfInBounds_toArray, List.set_cons_succ, List.set_cons_zero]
      simp [go_sem, quietTo, Ext.refl, ↓IntWalk.iteOmega, y3]
      all_goals try simp (disch := omega) only [IntWalk.i64_in]
      all_goals first
        | rfl
    refine fac_quiet 4 rfl rfl rfl (fun _ _ h _ => h) rfl rfl ?_
    apply Exists.intro
    refine ⟨fun sv w' hw' hfa => ?_, ?_⟩
    · obtain ⟨f3, -⟩ := hfa
      replace f3 : sv 3 = _ := f3
      try dsimp only at f3
      have hk := (Ext.refl W1).drew.trans hw'; obtain ⟨hc, hff, hz9⟩ := hk.walk; obtain ⟨y0, -⟩ := (hA.ext hk).walk; have y2 := (hc _ _ hP1).trans cP; have y3 := (hc _ _ hI1).trans cI; have y4 := (hc _ _ hpb).trans c0; have y5 := (hc _ _ hpb).trans c1
      refine ⟨rfl, ?_⟩
      simp only [putsL]
      change quietTo _ _ _ _ (Sem.run _ (execOp (Act.eval (Act.put _ (some 8) (sv 3))) _) _)
      try simp only [Act.put, List.setIfInBounds_toArray, List.set_cons_succ, List.set_cons_zero]
      simp [go_sem, quietTo, Ext.refl, ↓IntWalk.iteOmega, f3, hk1]
      all_goals try simp (disch := omega) only [IntWalk.i64_in]
      all_goals first
        | rfl
    refine fac_quiet 5 rfl rfl rfl (fun _ _ h _ => h) rfl rfl ?_
    apply Exists.intro
    refine ⟨fun sv w' hw' hfa => ?_, ?_⟩
    · obtain ⟨f2, f3, f4, -⟩ := hfa
      replace f2 : sv 2 = _ := f2
      try dsimp only at f2
      replace f3 : sv 3 = _ := f3
      try dsimp only at f3
      replace f4 : sv 4 = _ := f4
      try dsimp only at f4
      have hk := (Ext.refl W1).drew.trans hw'; obtain ⟨hc, hff, hz9⟩ := hk.walk; obtain ⟨y0, -⟩ := (hA.ext hk).walk; have y2 := (hc _ _ hP1).trans cP; have y3 := (hc _ _ hI1).trans cI; have y4 := (hc _ _ hpb).trans c0; have y5 := (hc _ _ hpb).trans c1
      refine ⟨rfl, ?_⟩
      simp only [putsL]
      change quietTo _ _ _ _ (Sem.run _ (execOp (Act.eval (Act.put (Act.put (Act.put _ (some 9) (sv 4)) (some 8) (sv 3)) (some 7) (sv 2))) _) _)
      try simp only [Act.put, List.setIfInBounds_toArray, List.set_cons_succ, List.set_cons_zero]
      simp [go_sem, quietTo, Ext.refl, ↓IntWalk.iteOmega, f2, f4, hk1, hk2, hk3]
      all_goals try simp (disch := omega) only [IntWalk.i64_in]
      all_goals first
        | rfl
    refine fac_quiet 6 rfl rfl rfl (fun _ _ h _ => h) rfl rfl ?_
    apply Exists.intro
    refine ⟨fun sv w' hw' hfa => ?_, ?_⟩
    · obtain ⟨f2, f3, f4, f5, -⟩ := hfa
      replace f2 : sv 2 = _ := f2
      try dsimp only at f2
      replace f3 : sv 3 = _ := f3
      try dsimp only at f3
      replace f4 : sv 4 = _ := f4
      try dsimp only at f4
      replace f5 : sv 5 = _ := f5
      try dsimp only at f5
      have hk := (Ext.refl W1).drew.trans hw'; obtain ⟨hc, hff, hz9⟩ := hk.walk; obtain ⟨y0, -⟩ := (hA.ext hk).walk; have y2 := (hc _ _ hP1).trans cP; have y3 := (hc _ _ hI1).trans cI; have y4 := (hc _ _ hpb).trans c0; have y5 := (hc _ _ hpb).trans c1
      refine ⟨rfl, ?_⟩
      simp only [putsL]
      change quietTo _ _ _ _ (Sem.run _ (execOp (Act.eval (Act.put (Act.put (Act.put (Act.put _ (some 10) (sv 5)) (some 9) (sv 4)) (some 8) (sv 3)) (some 7) (sv 2))) _) _)
      try simp only [Act.put, List.setIfInBounds_toArray, List.set_cons_succ, List.set_cons_zero]
      simp [go_sem, quietTo, Ext.refl, ↓IntWalk.iteOmega, f5, y4]
      all_goals try simp (disch := omega) only [IntWalk.i64_in]
      all_goals first
        | rfl
    refine fac_quiet 7 rfl rfl rfl (fun _ _ h _ => h) rfl rfl ?_
    apply Exists.intro
    refine ⟨fun sv w' hw' hfa => ?_, ?_⟩
    · obtain ⟨f0, f1, f2, f3, f4, f5, f6, -⟩ := hfa
      replace f0 : sv 0 = _ := f0
      try dsimp only at f0
      replace f1 : sv 1 = _ := f1
      try dsimp only at f1
      replace f2 : sv 2 = _ := f2
      try dsimp only at f2
      replace f3 : sv 3 = _ := f3
      try dsimp only at f3
      replace f4 : sv 4 = _ := f4
      try dsimp only at f4
      replace f5 : sv 5 = _ := f5
      try dsimp only at f5
      replace f6 : sv 6 = _ := f6
      try dsimp only at f6
      have hk := (Ext.refl W1).drew.trans hw'; obtain ⟨hc, hff, hz9⟩ := hk.walk; obtain ⟨y0, -⟩ := (hA.ext hk).walk; have y2 := (hc _ _ hP1).trans cP; have y3 := (hc _ _ hI1).trans cI; have y4 := (hc _ _ hpb).trans c0; have y5 := (hc _ _ hpb).trans c1
      refine ⟨rfl, ?_⟩
      simp only [putsL]
      change quietTo _ _ _ _ (Sem.run _ (execOp (Act.eval (Act.put (Act.put (Act.put (Act.put (Act.put (Act.put (Act.put _ (some 11) (sv 6)) (some 10) (sv 5)) (some 9) (sv 4)) (some 8) (sv 3)) (some 7) (sv 2)) (some 6) (sv 1)) (some 5) (sv 0))) _) _)
      try simp only [Act.put, List.setIfInBounds_toArray, List.set_cons_succ, List.set_cons_zero]
      simp [go_sem, quietTo, Ext.refl, ↓IntWalk.iteOmega, f1, f6, haa]
      all_goals try simp (disch := omega) only [IntWalk.i64_in]
      all_goals first
        | rfl
    refine fac_quiet 8 rfl rfl rfl (fun _ _ h _ => h) rfl rfl ?_
    apply Exists.intro
    refine ⟨fun sv w' hw' hfa => ?_, ?_⟩
    · obtain ⟨f0, f1, f2, f3, f4, f5, f6, f7, -⟩ := hfa
      replace f0 : sv 0 = _ := f0
      try dsimp only at f0
      replace f1 : sv 1 = _ := f1
      try dsimp only at f1
      replace f2 : sv 2 = _ := f2
      try dsimp only at f2
      replace f3 : sv 3 = _ := f3
      try dsimp only at f3
      replace f4 : sv 4 = _ := f4
      try dsimp only at f4
      replace f5 : sv 5 = _ := f5
      try dsimp only at f5
      replace f6 : sv 6 = _ := f6
      try dsimp only at f6
      replace f7 : sv 7 = _ := f7
      try dsimp only at f7
      have hk := (Ext.refl W1).drew.trans hw'; obtain ⟨hc, hff, hz9⟩ := hk.walk; obtain ⟨y0, -⟩ := (hA.ext hk).walk; have y2 := (hc _ _ hP1).trans cP; have y3 := (hc _ _ hI1).trans cI; have y4 := (hc _ _ hpb).trans c0; have y5 := (hc _ _ hpb).trans c1
      refine ⟨rfl, ?_⟩
      simp only [putsL]
      change quietTo _ _ _ _ (Sem.run _ (execOp (Act.eval (Act.put (Act.put (Act.put (Act.put (Act.put (Act.put (Act.put (Act.put _ (some 12) (sv 7)) (some 11) (sv 6)) (some 10) (sv 5)) (some 9) (sv 4)) (some 8) (sv 3)) (some 7) (sv 2)) (some 6) (sv 1)) (some 5) (sv 0))) _) _)
      try simp only [Act.put, List.setIfInBounds_toArray, List.set_cons_succ, List.set_cons_zero]
      simp [go_sem, quietTo, Ext.refl, f7]
      all_goals try simp (disch := omega) only [IntWalk.i64_in]
      all_goals first
        | rfl
    refine fac_skip 9 rfl rfl rfl (fun _ _ h _ => h) Ext.refl ?_ ?_
    · intro sv w' hw' hfa
      obtain ⟨f0, f1, f2, f3, f4, f5, f6, f7, f8, -⟩ := hfa
      replace f0 : sv 0 = _ := f0
      try dsimp only at f0
      replace f1 : sv 1 = _ := f1
      try dsimp only at f1
      replace f2 : sv 2 = _ := f2
      try dsimp only at f2
      replace f3 : sv 3 = _ := f3
      try dsimp only at f3
      replace f4 : sv 4 = _ := f4
      try dsimp only at f4
      replace f5 : sv 5 = _ := f5
      try dsimp only at f5
      replace f6 : sv 6 = _ := f6
      try dsimp only at f6
      replace f7 : sv 7 = _ := f7
      try dsimp only at f7
      replace f8 : sv 8 = _ := f8
      try dsimp only at f8
      simp [Region.wanted, yielded, putsL, Act.put, f8]
    refine fac_skip 10 rfl rfl rfl (fun _ _ h _ => h) Ext.refl ?_ ?_
    · intro sv w' hw' hfa
      obtain ⟨f0, f1, f2, f3, f4, f5, f6, f7, f8, f9, -⟩ := hfa
      replace f0 : sv 0 = _ := f0
      try dsimp only at f0
      replace f1 : sv 1 = _ := f1
      try dsimp only at f1
      replace f2 : sv 2 = _ := f2
      try dsimp only at f2
      replace f3 : sv 3 = _ := f3
      try dsimp only at f3
      replace f4 : sv 4 = _ := f4
      try dsimp only at f4
      replace f5 : sv 5 = _ := f5
      try dsimp only at f5
      replace f6 : sv 6 = _ := f6
      try dsimp only at f6
      replace f7 : sv 7 = _ := f7
      try dsimp only at f7
      replace f8 : sv 8 = _ := f8
      try dsimp only at f8
      replace f9 : sv 9 = _ := f9
      try dsimp only at f9
      simp [Region.wanted, yielded, putsL, Act.put, f8, f9]
    refine fac_skip 11 rfl rfl rfl (fun _ _ h _ => h) Ext.refl ?_ ?_
    · intro sv w' hw' hfa
      obtain ⟨f0, f1, f2, f3, f4, f5, f6, f7, f8, -⟩ := hfa
      replace f0 : sv 0 = _ := f0
      try dsimp only at f0
      replace f1 : sv 1 = _ := f1
      try dsimp only at f1
      replace f2 : sv 2 = _ := f2
      try dsimp only at f2
      replace f3 : sv 3 = _ := f3
      try dsimp only at f3
      replace f4 : sv 4 = _ := f4
      try dsimp only at f4
      replace f5 : sv 5 = _ := f5
      try dsimp only at f5
      replace f6 : sv 6 = _ := f6
      try dsimp only at f6
      replace f7 : sv 7 = _ := f7
      try dsimp only at f7
      replace f8 : sv 8 = _ := f8
      try dsimp only at f8
      simp [Region.wanted, yielded, putsL, Act.put, f8]
    refine fac_skip 12 rfl rfl rfl (fun _ _ h _ => h) Ext.refl ?_ ?_
    · intro sv w' hw' hfa
      obtain ⟨f0, f1, f2, f3, f4, f5, f6, f7, f8, -⟩ := hfa
      replace f0 : sv 0 = _ := f0
      try dsimp only at f0
      replace f1 : sv 1 = _ := f1
      try dsimp only at f1
      replace f2 : sv 2 = _ := f2
      try dsimp only at f2
      replace f3 : sv 3 = _ := f3
      try dsimp only at f3
      replace f4 : sv 4 = _ := f4
      try dsimp only at f4
      replace f5 : sv 5 = _ := f5
      try dsimp only at f5
      replace f6 : sv 6 = _ := f6
      try dsimp only at f6
      replace f7 : sv 7 = _ := f7
      try dsimp only at f7
      replace f8 : sv 8 = _ := f8
      try dsimp only at f8
      simp [Region.wanted, yielded, putsL, Act.put, f8]
    refine fac_skip 13 rfl rfl rfl (fun _ _ h _ => h) Ext.refl ?_ ?_
    · intro sv w' hw' hfa
      obtain ⟨f0, f1, f2, f3, f4, f5, f6, f7, f8, f11, f12, -⟩ := hfa
      replace f0 : sv 0 = _ := f0
      try dsimp only at f0
      replace f1 : sv 1 = _ := f1
      try dsimp only at f1
      replace f2 : sv 2 = _ := f2
      try dsimp only at f2
      replace f3 : sv 3 = _ := f3
      try dsimp only at f3
      replace f4 : sv 4 = _ := f4
      try dsimp only at f4
      replace f5 : sv 5 = _ := f5
      try dsimp only at f5
      replace f6 : sv 6 = _ := f6
      try dsimp only at f6
      replace f7 : sv 7 = _ := f7
      try dsimp only at f7
      replace f8 : sv 8 = _ := f8
      try dsimp only at f8
      replace f11 : sv 11 = _ := f11
      try dsimp only at f11
      replace f12 : sv 12 = _ := f12
      try dsimp only at f12
      simp [Region.wanted, yielded, putsL, Act.put, f8, f11, f12]
    refine fac_skip 14 rfl rfl rfl (fun _ _ h _ => h) Ext.refl ?_ ?_
    · intro sv w' hw' hfa
      obtain ⟨f0, f1, f2, f3, f4, f5, f6, f7, f8, f11, f12, f13, -⟩ := hfa
      replace f0 : sv 0 = _ := f0
      try dsimp only at f0
      replace f1 : sv 1 = _ := f1
      try dsimp only at f1
      replace f2 : sv 2 = _ := f2
      try dsimp only at f2
      replace f3 : sv 3 = _ := f3
      try dsimp only at f3
      replace f4 : sv 4 = _ := f4
      try dsimp only at f4
      replace f5 : sv 5 = _ := f5
      try dsimp only at f5
      replace f6 : sv 6 = _ := f6
      try dsimp only at f6
      replace f7 : sv 7 = _ := f7
      try dsimp only at f7
      replace f8 : sv 8 = _ := f8
      try dsimp only at f8
      replace f11 : sv 11 = _ := f11
      try dsimp only at f11
      replace f12 : sv 12 = _ := f12
      try dsimp only at f12
      replace f13 : sv 13 = _ := f13
      try dsimp only at f13
      simp [Region.wanted, yielded, putsL, Act.put, f8, f13]
    refine fac_skip 15 rfl rfl rfl (fun _ _ h _ => h) Ext.refl ?_ ?_
    · intro sv w' hw' hfa
      obtain ⟨f0, f1, f2, f3, f4, f5, f6, f7, f8, f9, f10, f11, f12, f13, f14, -⟩ := hfa
      replace f0 : sv 0 = _ := f0
      try dsimp only at f0
      replace f1 : sv 1 = _ := f1
      try dsimp only at f1
      replace f2 : sv 2 = _ := f2
      try dsimp only at f2
      replace f3 : sv 3 = _ := f3
      try dsimp only at f3
      replace f4 : sv 4 = _ := f4
      try dsimp only at f4
      replace f5 : sv 5 = _ := f5
      try dsimp only at f5
      replace f6 : sv 6 = _ := f6
      try dsimp only at f6
      replace f7 : sv 7 = _ := f7
      try dsimp only at f7
      replace f8 : sv 8 = _ := f8
      try dsimp only at f8
      replace f9 : sv 9 = _ := f9
      try dsimp only at f9
      replace f10 : sv 10 = _ := f10
      try dsimp only at f10
      replace f11 : sv 11 = _ := f11
      try dsimp only at f11
      replace f12 : sv 12 = _ := f12
      try dsimp only at f12
      replace f13 : sv 13 = _ := f13
      try dsimp only at f13
      replace f14 : sv 14 = _ := f14
      try dsimp only at f14
      simp [Region.wanted, yielded, putsL, Act.put, f8, f10, f14]
    refine fac_quiet 16 rfl rfl rfl (fun _ _ h _ => h) rfl rfl ?_
    apply Exists.intro
    refine ⟨fun sv w' hw' hfa => ?_, ?_⟩
    · obtain ⟨f0, f1, f2, f3, f4, f5, f6, f7, f8, f9, f10, f11, f12, f13, f14, f15, -⟩ := hfa
      replace f0 : sv 0 = _ := f0
      try dsimp only at f0
      replace f1 : sv 1 = _ := f1
      try dsimp only at f1
      replace f2 : sv 2 = _ := f2
      try dsimp only at f2
      replace f3 : sv 3 = _ := f3
      try dsimp only at f3
      replace f4 : sv 4 = _ := f4
      try dsimp only at f4
      replace f5 : sv 5 = _ := f5
      try dsimp only at f5
      replace f6 : sv 6 = _ := f6
      try dsimp only at f6
      replace f7 : sv 7 = _ := f7
      try dsimp only at f7
      replace f8 : sv 8 = _ := f8
      try dsimp only at f8
      replace f9 : sv 9 = _ := f9
      try dsimp only at f9
      replace f10 : sv 10 = _ := f10
      try dsimp only at f10
      replace f11 : sv 11 = _ := f11
      try dsimp only at f11
      replace f12 : sv 12 = _ := f12
      try dsimp only at f12
      replace f13 : sv 13 = _ := f13
      try dsimp only at f13
      replace f14 : sv 14 = _ := f14
      try dsimp only at f14
      replace f15 : sv 15 = _ := f15
      try dsimp only at f15
      have hk := (Ext.refl W1).drew.trans hw'; obtain ⟨hc, hff, hz9⟩ := hk.walk; obtain ⟨y0, -⟩ := (hA.ext hk).walk; have y2 := (hc _ _ hP1).trans cP; have y3 := (hc _ _ hI1).trans cI; have y4 := (hc _ _ hpb).trans c0; have y5 := (hc _ _ hpb).trans c1
      refine ⟨rfl, ?_⟩
      simp only [putsL]
      change quietTo _ _ _ _ (Sem.run _ (execOp (Act.eval (Act.put (Act.put (Act.put (Act.put (Act.put (Act.put (Act.put (Act.put (Act.put (Act.put (Act.put (Act.put (Act.put (Act.put (Act.put (Act.put _ (some 20) (sv 15)) (some 19) (sv 14)) (some 18) (sv 13)) (some 17) (sv 12)) (some 16) (sv 11)) (some 15) (sv 10)) (some 14) (sv 9)) (some 13) (sv 8)) (some 12) (sv 7)) (some 11) (sv 6)) (some 10) (sv 5)) (some 9) (sv 4)) (some 8) (sv 3)) (some 7) (sv 2)) (some 6) (sv 1)) (some 5) (sv 0))) _) _)
      try simp only [Act.put, List.setIfInBounds_toArray, List.set_cons_succ, List.set_cons_zero]
      simp [go_sem, quietTo, Ext.refl, ↓IntWalk.iteOmega, f8, f15]
      all_goals try simp (disch := omega) only [IntWalk.i64_in]
      all_goals first
        | rfl
    refine fac_quiet 17 rfl rfl rfl (fun _ _ h _ => h) rfl rfl ?_
    apply Exists.intro
    refine ⟨fun sv w' hw' hfa => ?_, ?_⟩
    · obtain ⟨f0, f1, f2, f3, f4, f5, f6, f7, f8, f9, f10, f11, f12, f13, f14, f15, f16, -⟩ := hfa
      replace f0 : sv 0 = _ := f0
      try dsimp only at f0
      replace f1 : sv 1 = _ := f1
      try dsimp only at f1
      replace f2 : sv 2 = _ := f2
      try dsimp only at f2
      replace f3 : sv 3 = _ := f3
      try dsimp only at f3
      replace f4 : sv 4 = _ := f4
      try dsimp only at f4
      replace f5 : sv 5 = _ := f5
      try dsimp only at f5
      replace f6 : sv 6 = _ := f6
      try dsimp only at f6
      replace f7 : sv 7 = _ := f7
      try dsimp only at f7
      replace f8 : sv 8 = _ := f8
      try dsimp only at f8
      replace f9 : sv 9 = _ := f9
      try dsimp only at f9
      replace f10 : sv 10 = _ := f10
      try dsimp only at f10
      replace f11 : sv 11 = _ := f11
      try dsimp only at f11
      replace f12 : sv 12 = _ := f12
      try dsimp only at f12
      replace f13 : sv 13 = _ := f13
      try dsimp only at f13
      replace f14 : sv 14 = _ := f14
      try dsimp only at f14
      replace f15 : sv 15 = _ := f15
      try dsimp only at f15
      replace f16 : sv 16 = _ := f16
      try dsimp only at f16
      have hk := (Ext.refl W1).drew.trans hw'; obtain ⟨hc, hff, hz9⟩ := hk.walk; obtain ⟨y0, -⟩ := (hA.ext hk).walk; have y2 := (hc _ _ hP1).trans cP; have y3 := (hc _ _ hI1).trans cI; have y4 := (hc _ _ hpb).trans c0; have y5 := (hc _ _ hpb).trans c1
      refine ⟨rfl, ?_⟩
      simp only [putsL]
      change quietTo _ _ _ _ (Sem.run _ (execOp (Act.eval (Act.put (Act.put (Act.put (Act.put (Act.put (Act.put (Act.put (Act.put (Act.put (Act.put (Act.put (Act.put (Act.put (Act.put (Act.put (Act.put (Act.put _ (some 21) (sv 16)) (some 20) (sv 15)) (some 19) (sv 14)) (some 18) (sv 13)) (some 17) (sv 12)) (some 16) (sv 11)) (some 15) (sv 10)) (some 14) (sv 9)) (some 13) (sv 8)) (some 12) (sv 7)) (some 11) (sv 6)) (some 10) (sv 5)) (some 9) (sv 4)) (some 8) (sv 3)) (some 7) (sv 2)) (some 6) (sv 1)) (some 5) (sv 0))) _) _)
      try simp only [Act.put, List.setIfInBounds_toArray, List.set_cons_succ, List.set_cons_zero]
      simp [go_sem, quietTo, Ext.refl, f16]
      all_goals try simp (disch := omega) only [IntWalk.i64_in]
      all_goals first
        | rfl
    refine fac_nil fun xb wrb herb hfrb hcrb holdb hapb => ?_
    obtain ⟨f0, f1, f2, f3, f4, f5, f6, f7, f8, f9, f10, f11, f12, f13, f14, f15, f16, f17, -⟩ := hfrb
    replace f0 : xb 0 = _ := f0
    try dsimp only at f0
    replace f1 : xb 1 = _ := f1
    try dsimp only at f1
    replace f2 : xb 2 = _ := f2
    try dsimp only at f2
    replace f3 : xb 3 = _ := f3
    try dsimp only at f3
    replace f4 : xb 4 = _ := f4
    try dsimp only at f4
    replace f5 : xb 5 = _ := f5
    try dsimp only at f5
    replace f6 : xb 6 = _ := f6
    try dsimp only at f6
    replace f7 : xb 7 = _ := f7
    try dsimp only at f7
    replace f8 : xb 8 = _ := f8
    try dsimp only at f8
    replace f9 : xb 9 = _ := f9
    try dsimp only at f9
    replace f10 : xb 10 = _ := f10
    try dsimp only at f10
    replace f11 : xb 11 = _ := f11
    try dsimp only at f11
    replace f12 : xb 12 = _ := f12
    try dsimp only at f12
    replace f13 : xb 13 = _ := f13
    try dsimp only at f13
    replace f14 : xb 14 = _ := f14
    try dsimp only at f14
    replace f15 : xb 15 = _ := f15
    try dsimp only at f15
    replace f16 : xb 16 = _ := f16
    try dsimp only at f16
    replace f17 : xb 17 = _ := f17
    try dsimp only at f17
    change wpList _ _ _ _ (Act.put (Act.put (Act.put (Act.put (Act.put (Act.put (Act.put (Act.put (Act.put (Act.put (Act.put (Act.put (Act.put (Act.put (Act.put (Act.put (Act.put (Act.put _ (some 5) (xb 0)) (some 6) (xb 1)) (some 7) (xb 2)) (some 8) (xb 3)) (some 9) (xb 4)) (some 10) (xb 5)) (some 11) (xb 6)) (some 12) (xb 7)) (some 13) (xb 8)) (some 14) (xb 9)) (some 15) (xb 10)) (some 16) (xb 11)) (some 17) (xb 12)) (some 18) (xb 13)) (some 19) (xb 14)) (some 20) (xb 15)) (some 21) (xb 16)) (some 4) (xb 17)) _
    simp only [putsL, Nat.reduceAdd, List.drop_succ_cons, List.drop_zero, List.drop_nil, Act.put, List.setIfInBounds_toArray, List.set_cons_succ, List.set_cons_zero]
    try simp only [f0, f1, f2, f3, f4, f5, f6, f7, f8, f9, f10, f11, f12, f13, f14, f15, f16, f17]
    clear f0 f1 f2 f3 f4 f5 f6 f7 f8 f9 f10 f11 f12 f13 f14 f15 f16 f17
    clear holdb hapb
    go_wp2
    go_ret
    exact ⟨by simp, hE1.trans ((Ext.refl _).drew.trans herb)⟩
  · go_upto_region 1 with fail
    generalize W.alloc (.cells #[.string y.fr, .string y.to, .int .i64 y.m] 37) = W1 at *
    refine wp_region_facts [] [([], false, false), ([0], false, false), ([], false, false), ([], false, false), ([3], false, false), ([2, 3, 4], false, false), ([2, 3, 4, 5], false, false), ([0, 1, 2, 3, 4, 5, 6], false, false), ([0, 1, 2, 3, 4, 5, 6, 7], false, false), ([0, 1, 2, 3, 4, 5, 6, 7, 8], false, false), ([0, 1, 2, 3, 4, 5, 6, 7, 8, 9], false, false), ([0, 1, 2, 3, 4, 5, 6, 7, 8], false, false), ([0, 1, 2, 3, 4, 5, 6, 7, 8], false, false), ([0, 1, 2, 3, 4, 5, 6, 7, 8, 11, 12], false, false), ([0, 1, 2, 3, 4, 5, 6, 7, 8, 11, 12, 13], false, false), ([0, 1, 2, 3, 4, 5, 6, 7, 8, 9, 10, 11, 12, 13, 14], false, false), ([0, 1, 2, 3, 4, 5, 6, 7, 8, 9, 10, 11, 12, 13, 14, 15], false, false), ([0, 1, 2, 3, 4, 5, 6, 7, 8, 9, 10, 11, 12, 13, 14, 15, 16], false, false)] (Ext) Ext (fun _ => True) (by kernel_rfl) (by kernel_rfl) Ext.refl (fun _ _ _ => Ext.trans) (fun _ _ h => h) (fun _ _ h => h.size) (fun _ _ h _ => h) trivial ?_
    dsimp only [List.length_cons, List.length_nil, List.drop_succ_cons, List.drop_zero, List.drop_nil]
    refine fac_quiet 0 rfl rfl rfl (fun _ _ h _ => h) rfl rfl ?_
    apply Exists.intro
    refine ⟨fun sv w' hw' hfa => ?_, ?_⟩
    · have hk := (Ext.refl W1).drew.trans hw'; obtain ⟨hc, hff, hz9⟩ := hk.walk; obtain ⟨y0, -⟩ := (hA.ext hk).walk; have y2 := (hc _ _ hP1).trans cP; have y3 := (hc _ _ hI1).trans cI; have y4 := (hc _ _ hpb).trans c0; have y5 := (hc _ _ hpb).trans c1
      refine ⟨rfl, ?_⟩
      simp only [putsL]
      change quietTo _ _ _ _ (Sem.run _ (execOp (Act.eval _) _) _)
      try simp only [Act.put, List.setIfInBounds_toArray, List.set_cons_succ, List.set_cons_zero]
      simp [go_sem, quietTo, Ext.refl]
      all_goals try simp (disch := omega) only [IntWalk.i64_in]
      all_goals first
        | rfl
    refine fac_quiet 1 rfl rfl rfl (fun _ _ h _ => h) rfl rfl ?_
    apply Exists.intro
    refine ⟨fun sv w' hw' hfa => ?_, ?_⟩
    · obtain ⟨f0, -⟩ := hfa
      replace f0 : sv 0 = _ := f0
      try dsimp only at f0
      have hk := (Ext.refl W1).drew.trans hw'; obtain ⟨hc, hff, hz9⟩ := hk.walk; obtain ⟨y0, -⟩ := (hA.ext hk).walk; have y2 := (hc _ _ hP1).trans cP; have y3 := (hc _ _ hI1).trans cI; have y4 := (hc _ _ hpb).trans c0; have y5 := (hc _ _ hpb).trans c1
      refine ⟨rfl, ?_⟩
      simp only [putsL]
      change quietTo _ _ _ _ (Sem.run _ (execOp (Act.eval (Act.put _ (some 5) (sv 0))) _) _)
      try simp only [Act.put, List.setIfInBounds_toArray, List.set_cons_succ, List.set_cons_zero]
      simp [go_sem, quietTo, Ext.refl, ↓IntWalk.iteOmega, f0, y0]
      all_goals try simp (disch := omega) only [IntWalk.i64_in]
      all_goals first
        | rfl
    refine fac_quiet 2 rfl rfl rfl (fun _ _ h _ => h) rfl rfl ?_
    apply Exists.intro
    refine ⟨fun sv w' hw' hfa => ?_, ?_⟩
    · have hk := (Ext.refl W1).drew.trans hw'; obtain ⟨hc, hff, hz9⟩ := hk.walk; obtain ⟨y0, -⟩ := (hA.ext hk).walk; have y2 := (hc _ _ hP1).trans cP; have y3 := (hc _ _ hI1).trans cI; have y4 := (hc _ _ hpb).trans c0; have y5 := (hc _ _ hpb).trans c1
      refine ⟨rfl, ?_⟩
      simp only [putsL]
      change quietTo _ _ _ _ (Sem.run _ (execOp (Act.eval _) _) _)
      try simp only [Act.put, List.setIfInBounds_toArray, List.set_cons_succ, List.set_cons_zero]
      simp [go_sem, quietTo, Ext.refl, ↓IntWalk.iteOmega, y2]
      all_goals try simp (disch := omega) only [IntWalk.i64_in]
      all_goals first
        | rfl
    refine fac_quiet 3 rfl rfl rfl (fun _ _ h _ => h) rfl rfl ?_
    apply Exists.intro
    refine ⟨fun sv w' hw' hfa => ?_, ?_⟩
    · have hk := (Ext.refl W1).drew.trans hw'; obtain ⟨hc, hff, hz9⟩ := hk.walk; obtain ⟨y0, -⟩ := (hA.ext hk).walk; have y2 := (hc _ _ hP1).trans cP; have y3 := (hc _ _ hI1).trans cI; have y4 := (hc _ _ hpb).trans c0; have y5 := (hc _ _ hpb).trans c1
      refine ⟨rfl, ?_⟩
      simp only [putsL]
      change quietTo _ _ _ _ (Sem.run _ (execOp (Act.eval _) _) _)
      try simp only [Act.put, List.setIfInBounds_toArray, List.set_cons_succ, List.set_cons_zero]
      simp [go_sem, quietTo, Ext.refl, ↓IntWalk.iteOmega, y3]
      all_goals try simp (disch := omega) only [IntWalk.i64_in]
      all_goals first
        | rfl
    refine fac_quiet 4 rfl rfl rfl (fun _ _ h _ => h) rfl rfl ?_
    apply Exists.intro
    refine ⟨fun sv w' hw' hfa => ?_, ?_⟩
    · obtain ⟨f3, -⟩ := hfa
      replace f3 : sv 3 = _ := f3
      try dsimp only at f3
      have hk := (Ext.refl W1).drew.trans hw'; obtain ⟨hc, hff, hz9⟩ := hk.walk; obtain ⟨y0, -⟩ := (hA.ext hk).walk; have y2 := (hc _ _ hP1).trans cP; have y3 := (hc _ _ hI1).trans cI; have y4 := (hc _ _ hpb).trans c0; have y5 := (hc _ _ hpb).trans c1
      refine ⟨rfl, ?_⟩
      simp only [putsL]
      change quietTo _ _ _ _ (Sem.run _ (execOp (Act.eval (Act.put _ (some 8) (sv 3))) _) _)
      try simp only [Act.put, List.setIfInBounds_toArray, List.set_cons_succ, List.set_cons_zero]
      simp [go_sem, quietTo, Ext.refl, ↓IntWalk.iteOmega, f3, hk1]
      all_goals try simp (disch := omega) only [IntWalk.i64_in]
      all_goals first
        | rfl
    refine fac_quiet 5 rfl rfl rfl (fun _ _ h _ => h) rfl rfl ?_
    apply Exists.intro
    refine ⟨fun sv w' hw' hfa => ?_, ?_⟩
    · obtain ⟨f2, f3, f4, -⟩ := hfa
      replace f2 : sv 2 = _ := f2
      try dsimp only at f2
      replace f3 : sv 3 = _ := f3
      try dsimp only at f3
      replace f4 : sv 4 = _ := f4
      try dsimp only at f4
      have hk := (Ext.refl W1).drew.trans hw'; obtain ⟨hc, hff, hz9⟩ := hk.walk; obtain ⟨y0, -⟩ := (hA.ext hk).walk; have y2 := (hc _ _ hP1).trans cP; have y3 := (hc _ _ hI1).trans cI; have y4 := (hc _ _ hpb).trans c0; have y5 := (hc _ _ hpb).trans c1
      refine ⟨rfl, ?_⟩
      simp only [putsL]
      change quietTo _ _ _ _ (Sem.run _ (execOp (Act.eval (Act.put (Act.put (Act.put _ (some 9) (sv 4)) (some 8) (sv 3)) (some 7) (sv 2))) _) _)
      try simp only [Act.put, List.setIfInBounds_toArray, List.set_cons_succ, List.set_cons_zero]
      simp [go_sem, quietTo, Ext.refl, ↓IntWalk.iteOmega, f2, f4, hk1, hk2, hk3]
      all_goals try simp (disch := omega) only [IntWalk.i64_in]
      all_goals first
        | rfl
    refine fac_quiet 6 rfl rfl rfl (fun _ _ h _ => h) rfl rfl ?_
    apply Exists.intro
    refine ⟨fun sv w' hw' hfa => ?_, ?_⟩
    · obtain ⟨f2, f3, f4, f5, -⟩ := hfa
      replace f2 : sv 2 = _ := f2
      try dsimp only at f2
      replace f3 : sv 3 = _ := f3
      try dsimp only at f3
      replace f4 : sv 4 = _ := f4
      try dsimp only at f4
      replace f5 : sv 5 = _ := f5
      try dsimp only at f5
      have hk := (Ext.refl W1).drew.trans hw'; obtain ⟨hc, hff, hz9⟩ := hk.walk; obtain ⟨y0, -⟩ := (hA.ext hk).walk; have y2 := (hc _ _ hP1).trans cP; have y3 := (hc _ _ hI1).trans cI; have y4 := (hc _ _ hpb).trans c0; have y5 := (hc _ _ hpb).trans c1
      refine ⟨rfl, ?_⟩
      simp only [putsL]
      change quietTo _ _ _ _ (Sem.run _ (execOp (Act.eval (Act.put (Act.put (Act.put (Act.put _ (some 10) (sv 5)) (some 9) (sv 4)) (some 8) (sv 3)) (some 7) (sv 2))) _) _)
      try simp only [Act.put, List.setIfInBounds_toArray, List.set_cons_succ, List.set_cons_zero]
      simp [go_sem, quietTo, Ext.refl, ↓IntWalk.iteOmega, f5, y4]
      all_goals try simp (disch := omega) only [IntWalk.i64_in]
      all_goals first
        | rfl
    refine fac_quiet 7 rfl rfl rfl (fun _ _ h _ => h) rfl rfl ?_
    apply Exists.intro
    refine ⟨fun sv w' hw' hfa => ?_, ?_⟩
    · obtain ⟨f0, f1, f2, f3, f4, f5, f6, -⟩ := hfa
      replace f0 : sv 0 = _ := f0
      try dsimp only at f0
      replace f1 : sv 1 = _ := f1
      try dsimp only at f1
      replace f2 : sv 2 = _ := f2
      try dsimp only at f2
      replace f3 : sv 3 = _ := f3
      try dsimp only at f3
      replace f4 : sv 4 = _ := f4
      try dsimp only at f4
      replace f5 : sv 5 = _ := f5
      try dsimp only at f5
      replace f6 : sv 6 = _ := f6
      try dsimp only at f6
      have hk := (Ext.refl W1).drew.trans hw'; obtain ⟨hc, hff, hz9⟩ := hk.walk; obtain ⟨y0, -⟩ := (hA.ext hk).walk; have y2 := (hc _ _ hP1).trans cP; have y3 := (hc _ _ hI1).trans cI; have y4 := (hc _ _ hpb).trans c0; have y5 := (hc _ _ hpb).trans c1
      refine ⟨rfl, ?_⟩
      simp only [putsL]
      change quietTo _ _ _ _ (Sem.run _ (execOp (Act.eval (Act.put (Act.put (Act.put (Act.put (Act.put (Act.put (Act.put _ (some 11) (sv 6)) (some 10) (sv 5)) (some 9) (sv 4)) (some 8) (sv 3)) (some 7) (sv 2)) (some 6) (sv 1)) (some 5) (sv 0))) _) _)
      try simp only [Act.put, List.setIfInBounds_toArray, List.set_cons_succ, List.set_cons_zero]
      simp [go_sem, quietTo, Ext.refl, ↓IntWalk.iteOmega, f1, f6, haa]
      all_goals try simp (disch := omega) only [IntWalk.i64_in]
      all_goals first
        | rfl
    refine fac_quiet 8 rfl rfl rfl (fun _ _ h _ => h) rfl rfl ?_
    apply Exists.intro
    refine ⟨fun sv w' hw' hfa => ?_, ?_⟩
    · obtain ⟨f0, f1, f2, f3, f4, f5, f6, f7, -⟩ := hfa
      replace f0 : sv 0 = _ := f0
      try dsimp only at f0
      replace f1 : sv 1 = _ := f1
      try dsimp only at f1
      replace f2 : sv 2 = _ := f2
      try dsimp only at f2
      replace f3 : sv 3 = _ := f3
      try dsimp only at f3
      replace f4 : sv 4 = _ := f4
      try dsimp only at f4
      replace f5 : sv 5 = _ := f5
      try dsimp only at f5
      replace f6 : sv 6 = _ := f6
      try dsimp only at f6
      replace f7 : sv 7 = _ := f7
      try dsimp only at f7
      have hk := (Ext.refl W1).drew.trans hw'; obtain ⟨hc, hff, hz9⟩ := hk.walk; obtain ⟨y0, -⟩ := (hA.ext hk).walk; have y2 := (hc _ _ hP1).trans cP; have y3 := (hc _ _ hI1).trans cI; have y4 := (hc _ _ hpb).trans c0; have y5 := (hc _ _ hpb).trans c1
      refine ⟨rfl, ?_⟩
      simp only [putsL]
      change quietTo _ _ _ _ (Sem.run _ (execOp (Act.eval (Act.put (Act.put (Act.put (Act.put (Act.put (Act.put (Act.put (Act.put _ (some 12) (sv 7)) (some 11) (sv 6)) (some 10) (sv 5)) (some 9) (sv 4)) (some 8) (sv 3)) (some 7) (sv 2)) (some 6) (sv 1)) (some 5) (sv 0))) _) _)
      try simp only [Act.put, List.setIfInBounds_toArray, List.set_cons_succ, List.set_cons_zero]
      simp [go_sem, quietTo, Ext.refl, f7]
      all_goals try simp (disch := omega) only [IntWalk.i64_in]
      all_goals first
        | rfl
    refine fac_quiet 9 rfl rfl rfl (fun _ _ h _ => h) rfl rfl ?_
    apply Exists.intro
    refine ⟨fun sv w' hw' hfa => ?_, ?_⟩
    · obtain ⟨f0, f1, f2, f3, f4, f5, f6, f7, f8, -⟩ := hfa
      replace f0 : sv 0 = _ := f0
      try dsimp only at f0
      replace f1 : sv 1 = _ := f1
      try dsimp only at f1
      replace f2 : sv 2 = _ := f2
      try dsimp only at f2
      replace f3 : sv 3 = _ := f3
      try dsimp only at f3
      replace f4 : sv 4 = _ := f4
      try dsimp only at f4
      replace f5 : sv 5 = _ := f5
      try dsimp only at f5
      replace f6 : sv 6 = _ := f6
      try dsimp only at f6
      replace f7 : sv 7 = _ := f7
      try dsimp only at f7
      replace f8 : sv 8 = _ := f8
      try dsimp only at f8
      have hk := (Ext.refl W1).drew.trans hw'; obtain ⟨hc, hff, hz9⟩ := hk.walk; obtain ⟨y0, -⟩ := (hA.ext hk).walk; have y2 := (hc _ _ hP1).trans cP; have y3 := (hc _ _ hI1).trans cI; have y4 := (hc _ _ hpb).trans c0; have y5 := (hc _ _ hpb).trans c1
      refine ⟨by simp [Region.wanted, yielded, putsL, Act.put, f8], ?_⟩
      simp only [putsL]
      change quietTo _ _ _ _ (Sem.run _ (execOp (Act.eval (Act.put (Act.put (Act.put (Act.put (Act.put (Act.put (Act.put (Act.put (Act.put _ (some 13) (sv 8)) (some 12) (sv 7)) (some 11) (sv 6)) (some 10) (sv 5)) (some 9) (sv 4)) (some 8) (sv 3)) (some 7) (sv 2)) (some 6) (sv 1)) (some 5) (sv 0))) _) _)
      try simp only [Act.put, List.setIfInBounds_toArray, List.set_cons_succ, List.set_cons_zero]
      simp [go_sem, quietTo, Ext.refl, f8]
      all_goals try simp (disch := omega) only [IntWalk.i64_in]
      all_goals first
        | rfl
    refine fac_quiet 10 rfl rfl rfl (fun _ _ h _ => h) rfl rfl ?_
    apply Exists.intro
    refine ⟨fun sv w' hw' hfa => ?_, ?_⟩
    · obtain ⟨f0, f1, f2, f3, f4, f5, f6, f7, f8, f9, -⟩ := hfa
      replace f0 : sv 0 = _ := f0
      try dsimp only at f0
      replace f1 : sv 1 = _ := f1
      try dsimp only at f1
      replace f2 : sv 2 = _ := f2
      try dsimp only at f2
      replace f3 : sv 3 = _ := f3
      try dsimp only at f3
      replace f4 : sv 4 = _ := f4
      try dsimp only at f4
      replace f5 : sv 5 = _ := f5
      try dsimp only at f5
      replace f6 : sv 6 = _ := f6
      try dsimp only at f6
      replace f7 : sv 7 = _ := f7
      try dsimp only at f7
      replace f8 : sv 8 = _ := f8
      try dsimp only at f8
      replace f9 : sv 9 = _ := f9
      try dsimp only at f9
      have hk := (Ext.refl W1).drew.trans hw'; obtain ⟨hc, hff, hz9⟩ := hk.walk; obtain ⟨y0, -⟩ := (hA.ext hk).walk; have y2 := (hc _ _ hP1).trans cP; have y3 := (hc _ _ hI1).trans cI; have y4 := (hc _ _ hpb).trans c0; have y5 := (hc _ _ hpb).trans c1
      refine ⟨by simp [Region.wanted, yielded, putsL, Act.put, f8, f9], ?_⟩
      simp only [putsL]
      change quietTo _ _ _ _ (Sem.run _ (execOp (Act.eval (Act.put (Act.put (Act.put (Act.put (Act.put (Act.put (Act.put (Act.put (Act.put (Act.put _ (some 14) (sv 9)) (some 13) (sv 8)) (some 12) (sv 7)) (some 11) (sv 6)) (some 10) (sv 5)) (some 9) (sv 4)) (some 8) (sv 3)) (some 7) (sv 2)) (some 6) (sv 1)) (some 5) (sv 0))) _) _)
      try simp only [Act.put, List.setIfInBounds_toArray, List.set_cons_succ, List.set_cons_zero]
      simp [go_sem, quietTo, Ext.refl, ↓IntWalk.iteOmega, f8, f9, y0]
      all_goals try simp (disch := omega) only [IntWalk.i64_in]
      all_goals first
        | rfl
    refine fac_quiet 11 rfl rfl rfl (fun _ _ h _ => h) rfl rfl ?_
    apply Exists.intro
    refine ⟨fun sv w' hw' hfa => ?_, ?_⟩
    · obtain ⟨f0, f1, f2, f3, f4, f5, f6, f7, f8, -⟩ := hfa
      replace f0 : sv 0 = _ := f0
      try dsimp only at f0
      replace f1 : sv 1 = _ := f1
      try dsimp only at f1
      replace f2 : sv 2 = _ := f2
      try dsimp only at f2
      replace f3 : sv 3 = _ := f3
      try dsimp only at f3
      replace f4 : sv 4 = _ := f4
      try dsimp only at f4
      replace f5 : sv 5 = _ := f5
      try dsimp only at f5
      replace f6 : sv 6 = _ := f6
      try dsimp only at f6
      replace f7 : sv 7 = _ := f7
      try dsimp only at f7
      replace f8 : sv 8 = _ := f8
      try dsimp only at f8
      have hk := (Ext.refl W1).drew.trans hw'; obtain ⟨hc, hff, hz9⟩ := hk.walk; obtain ⟨y0, -⟩ := (hA.ext hk).walk; have y2 := (hc _ _ hP1).trans cP; have y3 := (hc _ _ hI1).trans cI; have y4 := (hc _ _ hpb).trans c0; have y5 := (hc _ _ hpb).trans c1
      refine ⟨by simp [Region.wanted, yielded, putsL, Act.put, f8], ?_⟩
      simp only [putsL]
      change quietTo _ _ _ _ (Sem.run _ (execOp (Act.eval (Act.put (Act.put (Act.put (Act.put (Act.put (Act.put (Act.put (Act.put (Act.put _ (some 13) (sv 8)) (some 12) (sv 7)) (some 11) (sv 6)) (some 10) (sv 5)) (some 9) (sv 4)) (some 8) (sv 3)) (some 7) (sv 2)) (some 6) (sv 1)) (some 5) (sv 0))) _) _)
      try simp only [Act.put, List.setIfInBounds_toArray, List.set_cons_succ, List.set_cons_zero]
      simp [go_sem, quietTo, Ext.refl, ↓IntWalk.iteOmega, f8, y2]
      all_goals try simp (disch := omega) only [IntWalk.i64_in]
      all_goals first
        | rfl
    refine fac_quiet 12 rfl rfl rfl (fun _ _ h _ => h) rfl rfl ?_
    apply Exists.intro
    refine ⟨fun sv w' hw' hfa => ?_, ?_⟩
    · obtain ⟨f0, f1, f2, f3, f4, f5, f6, f7, f8, -⟩ := hfa
      replace f0 : sv 0 = _ := f0
      try dsimp only at f0
      replace f1 : sv 1 = _ := f1
      try dsimp only at f1
      replace f2 : sv 2 = _ := f2
      try dsimp only at f2
      replace f3 : sv 3 = _ := f3
      try dsimp only at f3
      replace f4 : sv 4 = _ := f4
      try dsimp only at f4
      replace f5 : sv 5 = _ := f5
      try dsimp only at f5
      replace f6 : sv 6 = _ := f6
      try dsimp only at f6
      replace f7 : sv 7 = _ := f7
      try dsimp only at f7
      replace f8 : sv 8 = _ := f8
      try dsimp only at f8
      have hk := (Ext.refl W1).drew.trans hw'; obtain ⟨hc, hff, hz9⟩ := hk.walk; obtain ⟨y0, -⟩ := (hA.ext hk).walk; have y2 := (hc _ _ hP1).trans cP; have y3 := (hc _ _ hI1).trans cI; have y4 := (hc _ _ hpb).trans c0; have y5 := (hc _ _ hpb).trans c1
      refine ⟨by simp [Region.wanted, yielded, putsL, Act.put, f8], ?_⟩
      simp only [putsL]
      change quietTo _ _ _ _ (Sem.run _ (execOp (Act.eval (Act.put (Act.put (Act.put (Act.put (Act.put (Act.put (Act.put (Act.put (Act.put _ (some 13) (sv 8)) (some 12) (sv 7)) (some 11) (sv 6)) (some 10) (sv 5)) (some 9) (sv 4)) (some 8) (sv 3)) (some 7) (sv 2)) (some 6) (sv 1)) (some 5) (sv 0))) _) _)
      try simp only [Act.put, List.setIfInBounds_toArray, List.set_cons_succ, List.set_cons_zero]
      simp [go_sem, quietTo, Ext.refl, ↓IntWalk.iteOmega, f8, y3]
      all_goals try simp (disch := omega) only [IntWalk.i64_in]
      all_goals first
        | rfl
    refine fac_quiet 13 rfl rfl rfl (fun _ _ h _ => h) rfl rfl ?_
    apply Exists.intro
    refine ⟨fun sv w' hw' hfa => ?_, ?_⟩
    · obtain ⟨f0, f1, f2, f3, f4, f5, f6, f7, f8, f11, f12, -⟩ := hfa
      replace f0 : sv 0 = _ := f0
      try dsimp only at f0
      replace f1 : sv 1 = _ := f1
      try dsimp only at f1
      replace f2 : sv 2 = _ := f2
      try dsimp only at f2
      replace f3 : sv 3 = _ := f3
      try dsimp only at f3
      replace f4 : sv 4 = _ := f4
      try dsimp only at f4
      replace f5 : sv 5 = _ := f5
      try dsimp only at f5
      replace f6 : sv 6 = _ := f6
      try dsimp only at f6
      replace f7 : sv 7 = _ := f7
      try dsimp only at f7
      replace f8 : sv 8 = _ := f8
      try dsimp only at f8
      replace f11 : sv 11 = _ := f11
      try dsimp only at f11
      replace f12 : sv 12 = _ := f12
      try dsimp only at f12
      have hk := (Ext.refl W1).drew.trans hw'; obtain ⟨hc, hff, hz9⟩ := hk.walk; obtain ⟨y0, -⟩ := (hA.ext hk).walk; have y2 := (hc _ _ hP1).trans cP; have y3 := (hc _ _ hI1).trans cI; have y4 := (hc _ _ hpb).trans c0; have y5 := (hc _ _ hpb).trans c1
      refine ⟨by simp [Region.wanted, yielded, putsL, Act.put, f8, f11, f12], ?_⟩
      simp only [putsL]
      change quietTo _ _ _ _ (Sem.run _ (execOp (Act.eval (Act.put (Act.put (Act.put (Act.put (Act.put (Act.put (Act.put (Act.put (Act.put (Act.put (Act.put _ (some 17) (sv 12)) (some 16) (sv 11)) (some 13) (sv 8)) (some 12) (sv 7)) (some 11) (sv 6)) (some 10) (sv 5)) (some 9) (sv 4)) (some 8) (sv 3)) (some 7) (sv 2)) (some 6) (sv 1)) (some 5) (sv 0))) _) _)
      try simp only [Act.put, List.setIfInBounds_toArray, List.set_cons_succ, List.set_cons_zero]
      simp [go_sem, quietTo, Ext.refl, ↓IntWalk.iteOmega, f8, f11, f12, hk4, hk5, hk6]
      all_goals try simp (disch := omega) only [IntWalk.i64_in]
      all_goals first
        | rfl
    refine fac_quiet 14 rfl rfl rfl (fun _ _ h _ => h) rfl rfl ?_
    apply Exists.intro
    refine ⟨fun sv w' hw' hfa => ?_, ?_⟩
    · obtain ⟨f0, f1, f2, f3, f4, f5, f6, f7, f8, f11, f12, f13, -⟩ := hfa
      replace f0 : sv 0 = _ := f0
      try dsimp only at f0
      replace f1 : sv 1 = _ := f1
      try dsimp only at f1
      replace f2 : sv 2 = _ := f2
      try dsimp only at f2
      replace f3 : sv 3 = _ := f3
      try dsimp only at f3
      replace f4 : sv 4 = _ := f4
      try dsimp only at f4
      replace f5 : sv 5 = _ := f5
      try dsimp only at f5
      replace f6 : sv 6 = _ := f6
      try dsimp only at f6
      replace f7 : sv 7 = _ := f7
      try dsimp only at f7
      replace f8 : sv 8 = _ := f8
      try dsimp only at f8
      replace f11 : sv 11 = _ := f11
      try dsimp only at f11
      replace f12 : sv 12 = _ := f12
      try dsimp only at f12
      replace f13 : sv 13 = _ := f13
      try dsimp only at f13
      have hk := (Ext.refl W1).drew.trans hw'; obtain ⟨hc, hff, hz9⟩ := hk.walk; obtain ⟨y0, -⟩ := (hA.ext hk).walk; have y2 := (hc _ _ hP1).trans cP; have y3 := (hc _ _ hI1).trans cI; have y4 := (hc _ _ hpb).trans c0; have y5 := (hc _ _ hpb).trans c1
      refine ⟨by simp [Region.wanted, yielded, putsL, Act.put, f8, f13], ?_⟩
      simp only [putsL]
      change quietTo _ _ _ _ (Sem.run _ (execOp (Act.eval (Act.put (Act.put (Act.put (Act.put (Act.put (Act.put (Act.put (Act.put (Act.put (Act.put (Act.put (Act.put _ (some 18) (sv 13)) (some 17) (sv 12)) (some 16) (sv 11)) (some 13) (sv 8)) (some 12) (sv 7)) (some 11) (sv 6)) (some 10) (sv 5)) (some 9) (sv 4)) (some 8) (sv 3)) (some 7) (sv 2)) (some 6) (sv 1)) (some 5) (sv 0))) _) _)
      try simp only [Act.put, List.setIfInBounds_toArray, List.set_cons_succ, List.set_cons_zero]
      simp [go_sem, quietTo, Ext.refl, ↓IntWalk.iteOmega, f8, f13, y5]
      all_goals try simp (disch := omega) only [IntWalk.i64_in]
      all_goals first
        | rfl
    refine fac_quiet 15 rfl rfl rfl (fun _ _ h _ => h) rfl rfl ?_
    apply Exists.intro
    refine ⟨fun sv w' hw' hfa => ?_, ?_⟩
    · obtain ⟨f0, f1, f2, f3, f4, f5, f6, f7, f8, f9, f10, f11, f12, f13, f14, -⟩ := hfa
      replace f0 : sv 0 = _ := f0
      try dsimp only at f0
      replace f1 : sv 1 = _ := f1
      try dsimp only at f1
      replace f2 : sv 2 = _ := f2
      try dsimp only at f2
      replace f3 : sv 3 = _ := f3
      try dsimp only at f3
      replace f4 : sv 4 = _ := f4
      try dsimp only at f4
      replace f5 : sv 5 = _ := f5
      try dsimp only at f5
      replace f6 : sv 6 = _ := f6
      try dsimp only at f6
      replace f7 : sv 7 = _ := f7
      try dsimp only at f7
      replace f8 : sv 8 = _ := f8
      try dsimp only at f8
      replace f9 : sv 9 = _ := f9
      try dsimp only at f9
      replace f10 : sv 10 = _ := f10
      try dsimp only at f10
      replace f11 : sv 11 = _ := f11
      try dsimp only at f11
      replace f12 : sv 12 = _ := f12
      try dsimp only at f12
      replace f13 : sv 13 = _ := f13
      try dsimp only at f13
      replace f14 : sv 14 = _ := f14
      try dsimp only at f14
      have hk := (Ext.refl W1).drew.trans hw'; obtain ⟨hc, hff, hz9⟩ := hk.walk; obtain ⟨y0, -⟩ := (hA.ext hk).walk; have y2 := (hc _ _ hP1).trans cP; have y3 := (hc _ _ hI1).trans cI; have y4 := (hc _ _ hpb).trans c0; have y5 := (hc _ _ hpb).trans c1
      refine ⟨by simp [Region.wanted, yielded, putsL, Act.put, f8, f10, f14], ?_⟩
      simp only [putsL]
      change quietTo _ _ _ _ (Sem.run _ (execOp (Act.eval (Act.put (Act.put (Act.put (Act.put (Act.put (Act.put (Act.put (Act.put (Act.put (Act.put (Act.put (Act.put (Act.put (Act.put (Act.put _ (some 19) (sv 14)) (some 18) (sv 13)) (some 17) (sv 12)) (some 16) (sv 11)) (some 15) (sv 10)) (some 14) (sv 9)) (some 13) (sv 8)) (some 12) (sv 7)) (some 11) (sv 6)) (some 10) (sv 5)) (some 9) (sv 4)) (some 8) (sv 3)) (some 7) (sv 2)) (some 6) (sv 1)) (some 5) (sv 0))) _) _)
      try simp only [Act.put, List.setIfInBounds_toArray, List.set_cons_succ, List.set_cons_zero]
      simp [go_sem, quietTo, Ext.refl, ↓IntWalk.iteOmega, f8, f10, f14, hbb]
      all_goals try simp (disch := omega) only [IntWalk.i64_in]
      all_goals first
        | rfl
    refine fac_quiet 16 rfl rfl rfl (fun _ _ h _ => h) rfl rfl ?_
    apply Exists.intro
    refine ⟨fun sv w' hw' hfa => ?_, ?_⟩
    · obtain ⟨f0, f1, f2, f3, f4, f5, f6, f7, f8, f9, f10, f11, f12, f13, f14, f15, -⟩ := hfa
      replace f0 : sv 0 = _ := f0
      try dsimp only at f0
      replace f1 : sv 1 = _ := f1
      try dsimp only at f1
      replace f2 : sv 2 = _ := f2
      try dsimp only at f2
      replace f3 : sv 3 = _ := f3
      try dsimp only at f3
      replace f4 : sv 4 = _ := f4
      try dsimp only at f4
      replace f5 : sv 5 = _ := f5
      try dsimp only at f5
      replace f6 : sv 6 = _ := f6
      try dsimp only at f6
      replace f7 : sv 7 = _ := f7
      try dsimp only at f7
      replace f8 : sv 8 = _ := f8
      try dsimp only at f8
      replace f9 : sv 9 = _ := f9
      try dsimp only at f9
      replace f10 : sv 10 = _ := f10
      try dsimp only at f10
      replace f11 : sv 11 = _ := f11
      try dsimp only at f11
      replace f12 : sv 12 = _ := f12
      try dsimp only at f12
      replace f13 : sv 13 = _ := f13
      try dsimp only at f13
      replace f14 : sv 14 = _ := f14
      try dsimp only at f14
      replace f15 : sv 15 = _ := f15
      try dsimp only at f15
      have hk := (Ext.refl W1).drew.trans hw'; obtain ⟨hc, hff, hz9⟩ := hk.walk; obtain ⟨y0, -⟩ := (hA.ext hk).walk; have y2 := (hc _ _ hP1).trans cP; have y3 := (hc _ _ hI1).trans cI; have y4 := (hc _ _ hpb).trans c0; have y5 := (hc _ _ hpb).trans c1
      refine ⟨rfl, ?_⟩
      simp only [putsL]
      change quietTo _ _ _ _ (Sem.run _ (execOp (Act.eval (Act.put (Act.put (Act.put (Act.put (Act.put (Act.put (Act.put (Act.put (Act.put (Act.put (Act.put (Act.put (Act.put (Act.put (Act.put (Act.put _ (some 20) (sv 15)) (some 19) (sv 14)) (some 18) (sv 13)) (some 17) (sv 12)) (some 16) (sv 11)) (some 15) (sv 10)) (some 14) (sv 9)) (some 13) (sv 8)) (some 12) (sv 7)) (some 11) (sv 6)) (some 10) (sv 5)) (some 9) (sv 4)) (some 8) (sv 3)) (some 7) (sv 2)) (some 6) (sv 1)) (some 5) (sv 0))) _) _)
      try simp only [Act.put, List.setIfInBounds_toArray, List.set_cons_succ, List.set_cons_zero]
      simp [go_sem, quietTo, Ext.refl, ↓IntWalk.iteOmega, f8, f15]
      all_goals try simp (disch := omega) only [IntWalk.i64_in]
      all_goals first
        | rfl
    refine fac_quiet 17 rfl rfl rfl (fun _ _ h _ => h) rfl rfl ?_
    apply Exists.intro
    refine ⟨fun sv w' hw' hfa => ?_, ?_⟩
    · obtain ⟨f0, f1, f2, f3, f4, f5, f6, f7, f8, f9, f10, f11, f12, f13, f14, f15, f16, -⟩ := hfa
      replace f0 : sv 0 = _ := f0
      try dsimp only at f0
      replace f1 : sv 1 = _ := f1
      try dsimp only at f1
      replace f2 : sv 2 = _ := f2
      try dsimp only at f2
      replace f3 : sv 3 = _ := f3
      try dsimp only at f3
      replace f4 : sv 4 = _ := f4
      try dsimp only at f4
      replace f5 : sv 5 = _ := f5
      try dsimp only at f5
      replace f6 : sv 6 = _ := f6
      try dsimp only at f6
      replace f7 : sv 7 = _ := f7
      try dsimp only at f7
      replace f8 : sv 8 = _ := f8
      try dsimp only at f8
      replace f9 : sv 9 = _ := f9
      try dsimp only at f9
      replace f10 : sv 10 = _ := f10
      try dsimp only at f10
      replace f11 : sv 11 = _ := f11
      try dsimp only at f11
      replace f12 : sv 12 = _ := f12
      try dsimp only at f12
      replace f13 : sv 13 = _ := f13
      try dsimp only at f13
      replace f14 : sv 14 = _ := f14
      try dsimp only at f14
      replace f15 : sv 15 = _ := f15
      try dsimp only at f15
      replace f16 : sv 16 = _ := f16
      try dsimp only at f16
      have hk := (Ext.refl W1).drew.trans hw'; obtain ⟨hc, hff, hz9⟩ := hk.walk; obtain ⟨y0, -⟩ := (hA.ext hk).walk; have y2 := (hc _ _ hP1).trans cP; have y3 := (hc _ _ hI1).trans cI; have y4 := (hc _ _ hpb).trans c0; have y5 := (hc _ _ hpb).trans c1
      refine ⟨rfl, ?_⟩
      simp only [putsL]
      change quietTo _ _ _ _ (Sem.run _ (execOp (Act.eval (Act.put (Act.put (Act.put (Act.put (Act.put (Act.put (Act.put (Act.put (Act.put (Act.put (Act.put (Act.put (Act.put (Act.put (Act.put (Act.put (Act.put _ (some 21) (sv 16)) (some 20) (sv 15)) (some 19) (sv 14)) (some 18) (sv 13)) (some 17) (sv 12)) (some 16) (sv 11)) (some 15) (sv 10)) (some 14) (sv 9)) (some 13) (sv 8)) (some 12) (sv 7)) (some 11) (sv 6)) (some 10) (sv 5)) (some 9) (sv 4)) (some 8) (sv 3)) (some 7) (sv 2)) (some 6) (sv 1)) (some 5) (sv 0))) _) _)
      try simp only [Act.put, List.setIfInBounds_toArray, List.set_cons_succ, List.set_cons_zero]
      simp [go_sem, quietTo, Ext.refl, f16]
      all_goals try simp (disch := omega) only [IntWalk.i64_in]
      all_goals first
        | rfl
    refine fac_nil fun xb wrb herb hfrb hcrb holdb hapb => ?_
    obtain ⟨f0, f1, f2, f3, f4, f5, f6, f7, f8, f9, f10, f11, f12, f13, f14, f15, f16, f17, -⟩ := hfrb
    replace f0 : xb 0 = _ := f0
    try dsimp only at f0
    replace f1 : xb 1 = _ := f1
    try dsimp only at f1
    replace f2 : xb 2 = _ := f2
    try dsimp only at f2
    replace f3 : xb 3 = _ := f3
    try dsimp only at f3
    replace f4 : xb 4 = _ := f4
    try dsimp only at f4
    replace f5 : xb 5 = _ := f5
    try dsimp only at f5
    replace f6 : xb 6 = _ := f6
    try dsimp only at f6
    replace f7 : xb 7 = _ := f7
    try dsimp only at f7
    replace f8 : xb 8 = _ := f8
    try dsimp only at f8
    replace f9 : xb 9 = _ := f9
    try dsimp only at f9
    replace f10 : xb 10 = _ := f10
    try dsimp only at f10
    replace f11 : xb 11 = _ := f11
    try dsimp only at f11
    replace f12 : xb 12 = _ := f12
    try dsimp only at f12
    replace f13 : xb 13 = _ := f13
    try dsimp only at f13
    replace f14 : xb 14 = _ := f14
    try dsimp only at f14
    replace f15 : xb 15 = _ := f15
    try dsimp only at f15
    replace f16 : xb 16 = _ := f16
    try dsimp only at f16
    replace f17 : xb 17 = _ := f17
    try dsimp only at f17
    change wpList _ _ _ _ (Act.put (Act.put (Act.put (Act.put (Act.put (Act.put (Act.put (Act.put (Act.put (Act.put (Act.put (Act.put (Act.put (Act.put (Act.put (Act.put (Act.put (Act.put _ (some 5) (xb 0)) (some 6) (xb 1)) (some 7) (xb 2)) (some 8) (xb 3)) (some 9) (xb 4)) (some 10) (xb 5)) (some 11) (xb 6)) (some 12) (xb 7)) (some 13) (xb 8)) (some 14) (xb 9)) (some 15) (xb 10)) (some 16) (xb 11)) (some 17) (xb 12)) (some 18) (xb 13)) (some 19) (xb 14)) (some 20) (xb 15)) (some 21) (xb 16)) (some 4) (xb 17)) _
    simp only [putsL, Nat.reduceAdd, List.drop_succ_cons, List.drop_zero, List.drop_nil, Act.put, List.setIfInBounds_toArray, List.set_cons_succ, List.set_cons_zero]
    try simp only [f0, f1, f2, f3, f4, f5, f6, f7, f8, f9, f10, f11, f12, f13, f14, f15, f16, f17]
    clear f0 f1 f2 f3 f4 f5 f6 f7 f8 f9 f10 f11 f12 f13 f14 f15 f16 f17
    clear holdb hapb
    go_wp2
    go_ret
    exact ⟨by simp, hE1.trans ((Ext.refl _).drew.trans herb)⟩
end Go.Proofs.YtlmbpgjdepmlcaaDoor
