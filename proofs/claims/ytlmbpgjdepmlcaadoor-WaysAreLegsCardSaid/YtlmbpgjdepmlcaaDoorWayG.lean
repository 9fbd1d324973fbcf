/- Whether a leg goes on along a shortest way. Conditions: as each theorem says. -/
import Derived.Test.YtlmbpgjdepmlcaaDoorWayF
import Derived.Laws.StructEq
namespace Go.Proofs.YtlmbpgjdepmlcaaDoor
open Go Go.RowKit

def LegV.Fine (x : LegV) : Prop := x.fr.size ≤ 1000 ∧ x.to.size ≤ 1000 ∧ 1 ≤ x.m ∧ x.m ≤ 100000000
def fitB (f : St) (last : ByteArray) (v : Int × Int) (y : LegV) : Bool :=
  (y.fr.toList == last.toList) && ((f y.to).isSome && (decide (((f y.to).getD (0, 0)).1 + y.m = v.1) && decide (((f y.to).getD (0, 0)).2 + 1 = v.2)))

set_option maxRecDepth 100000 in
set_option maxHeartbeats 6400000 in
theorem short1_any (y : LegV) (f : St) (l : List ByteArray) (M1 P1 V1 mb pb m mc : Nat) (last : ByteArray) (v : Int × Int) (W : World) (hf : y.Fine) (hO : OwnW W mb l f) (hbd : ∀ q r, f q = some r → 0 ≤ r.2 ∧ r.2 ≤ r.1 ∧ r.1 ≤ 80000000001)
    (hM1 : M1 < W.heap.size) (hP1 : P1 < W.heap.size) (hV1 : V1 < W.heap.size) (hpb : pb < W.heap.size) (hm : m ≤ 100000) (cM : W.cell? ⟨M1, 0, none⟩ = some (.map (some mb))) (cP : W.cell? ⟨P1, 0, none⟩ = some (.slice (some ⟨pb, 0, none⟩) (m + 1) mc)) (cL : W.cell? ⟨pb, m, none⟩ = some (.string last))
    (cV0 : W.cell? ⟨V1, 0, none⟩ = some (.int .i64 v.1)) (cV1 : W.cell? ⟨V1, 1, none⟩ = some (.int .i64 v.2)) :
    Calls Tryd.prog 40 #[.agg #[.string y.fr, .string y.to, .int .i64 y.m], .pointer (some ⟨M1, 0, none⟩), .pointer (some ⟨P1, 0, none⟩), .pointer (some ⟨V1, 0, none⟩)] W fun e w' => e = .returned (.bool (fitB f last v y)) ∧ Ext W w' := by
  have l1 := (hO.ext (Ext.alloc (Ext.refl W) (.cells #[.string y.fr, .string y.to, .int .i64 y.m] 37))).look_ok (p := y.to) hf.2.1
  have hrb : -1099511627776 ≤ ((f y.to).getD (0, 0)).1 + y.m ∧ ((f y.to).getD (0, 0)).1 + y.m ≤ 1099511627776 ∧ -1099511627776 ≤ ((f y.to).getD (0, 0)).2 ∧ ((f y.to).getD (0, 0)).2 ≤ 1099511627776 := by
    have h3 := hf.2.2
    cases e : f y.to with
    | none => simp only [Option.getD_none]; omega
    | some r => have := hbd _ _ e; simp only [Option.getD_some]; omega
  have hby := fun u => way_by ((f y.to).getD (0, 0)) y u ⟨hrb.1, hrb.2.1⟩ hrb.2.2
  have hres : fitB f last v y = ((y.fr.toList == last.toList) && ((f y.to).isSome && (decide (((f y.to).getD (0, 0)).1 + y.m = v.1) && decide (((f y.to).getD (0, 0)).2 + 1 = v.2)))) := rfl
  rw [hres]
  obtain ⟨v1, v2⟩ := v
  generalize (f y.to).getD (0, 0) = r at *
  obtain ⟨r1, r2⟩ := r
  simp only at l1 hby cV0 cV1 hrb ⊢
  replace l1 : (Instr.lookup 77 (.map (some mb)) (.string y.to) true).run Tryd.prog (W.alloc (.cells #[.string y.fr, .string y.to, .int .i64 y.m] 37)) = .ok (.tuple #[.agg #[.int .i64 r1, .int .i64 r2], .bool (f y.to).isSome]) (W.alloc (.cells #[.string y.fr, .string y.to, .int .i64 y.m] 37)) := l1
  replace hby := Lib.hid hby
  replace hO := Lib.hid hO
  replace hbd := Lib.hid hbd
  clear hres
  have hm1 : ((m : Int) + 1 - 1) = (m : Int) := by omega
  have hm2 : (m : Int) < (m : Int) + 1 := by omega
  have hm3 : ((m + 1 : Nat) : Int) = (m : Int) + 1 := by omega
  have hA : Blk ((W.alloc (.cells #[.string y.fr, .string y.to, .int .i64 y.m] 37)).alloc (.cells #[.int .i64 r1, .int .i64 r2] 80)) W.heap.size 37 #[.string y.fr, .string y.to, .int .i64 y.m] := (Blk.new' rfl).alloc _
  have hR : Blk ((W.alloc (.cells #[.string y.fr, .string y.to, .int .i64 y.m] 37)).alloc (.cells #[.int .i64 r1, .int .i64 r2] 80)) (W.heap.size + 1) 80 #[.int .i64 r1, .int .i64 r2] := Blk.new' (by simp)
  have hE1 : Ext W ((W.alloc (.cells #[.string y.fr, .string y.to, .int .i64 y.m] 37)).alloc (.cells #[.int .i64 r1, .int .i64 r2] 80)) := ((Ext.refl W).alloc _).alloc _
  have cM' := cM
  obtain ⟨hcc, _, _⟩ := hE1.walk
  replace cP := (hcc _ _ hP1).trans cP
  replace cL := (hcc _ _ hpb).trans cL
  replace cV0 := (hcc _ _ hV1).trans cV0
  replace cV1 := (hcc _ _ hV1).trans cV1
  have hs1 := hE1.size
  replace hP1 := Nat.lt_of_lt_of_le hP1 hs1
  replace hV1 := Nat.lt_of_lt_of_le hV1 hs1
  replace hpb := Nat.lt_of_lt_of_le hpb hs1
  clear hs1 hcc
  generalize hbb : (f y.to).isSome = bb at *
  replace hbb := Lib.hid hbb
  generalize haa : (y.fr.toList == last.toList) = aa at *
  go_enter Tryd.func40, Tryd.ntmps40
  cases aa
  · replace haa := haa
    go_upto_region 2 with (refine wpList_look rfl _ _ 77 true rfl (.map (some mb)) (.string y.to) _ rfl rfl l1 ?_)
    generalize (W.alloc (.cells #[.string y.fr, .string y.to, .int .i64 y.m] 37)).alloc (.cells #[.int .i64 r1, .int .i64 r2] 80) = W1 at *
    refine wp_region_facts [] [([], false, false), ([0], false, false), ([], false, false), ([], false, false), ([3], false, false), ([3, 4], false, false), ([2, 3, 4, 5], false, false), ([2, 3, 4, 5, 6], false, false), ([0, 1, 2, 3, 4, 5, 6, 7], false, false), ([0, 1, 2, 3, 4, 5, 6, 7, 8], false, false), ([0, 1, 2, 3, 4, 5, 6, 7, 8, 9], false, false), ([0, 1, 2, 3, 4, 5, 6, 7, 8, 9, 10], false, false), ([0, 1, 2, 3, 4, 5, 6, 7, 8, 9, 10, 11], false, false), ([0, 1, 2, 3, 4, 5, 6, 7, 8, 9, 10, 11, 12], false, false), ([0, 1, 2, 3, 4, 5, 6, 7, 8, 9, 10, 11, 12], false, false), ([0, 1, 2, 3, 4, 5, 6, 7, 8, 9, 10, 11, 12, 13, 14], false, false), ([0, 1, 2, 3, 4, 5, 6, 7, 8, 9, 10, 11, 12], false, false), ([0, 1, 2, 3, 4, 5, 6, 7, 8, 9, 10, 11, 12, 13, 14, 15, 16], false, false), ([0, 1, 2, 3, 4, 5, 6, 7, 8, 9, 10, 11, 12, 13, 14, 15, 16, 17], false, false), ([0, 1, 2, 3, 4, 5, 6, 7, 8, 9, 10, 11, 12, 13, 14, 15, 16, 17, 18], false, false)] (Ext) Ext (fun _ => True) (by kernel_rfl) (by kernel_rfl) Ext.refl (fun _ _ _ => Ext.trans) (fun _ _ h => h) (fun _ _ h => h.size) (fun _ _ h _ => h) trivial ?_
    dsimp only [List.length_cons, List.length_nil, List.drop_succ_cons, List.drop_zero, List.drop_nil]
    refine fac_quiet 0 rfl rfl rfl (fun _ _ h _ => h) rfl rfl ?_
    apply Exists.intro
    refine ⟨fun sv w' hw' hfa => ?_, ?_⟩
    · have hk := (Ext.refl W1).drew.trans hw'; obtain ⟨hc, hff, hz9⟩ := hk.walk; obtain ⟨y0, -⟩ := (hA.ext hk).walk; obtain ⟨y1, -⟩ := (hR.ext hk).walk; have y2 := (hc _ _ hP1).trans cP; have y3 := (hc _ _ hpb).trans cL; have y4 := (hc _ _ hV1).trans cV0; have y5 := (hc _ _ hV1).trans cV1
      refine ⟨rfl, ?_⟩
      simp only [putsL]
      change quietTo _ _ _ _ (Sem.run _ (execOp (Act.eval _) _) _)
      try simp only [Act.put, List.setIfInBounds_toArray, List.set_cons_succ, List.set_cons_zero]
      simp [go_sem, quietTo, Ext.refl]
      all_goals try simp (disch := omega) only [IntWalk.i64_in]
      all_goals first
        | rfl
    refine fac_quiet 1 rfl rfl rfl (fun _ _ h _ => h) rfl rfl ?_
    apply Exists.intro
    refine ⟨fun sv w' hw' hfa => ?_, ?_⟩
    · obtain ⟨f0, -⟩ := hfa
      replace f0 : sv 0 = _ := f0
      try dsimp only at f0
      have hk := (Ext.refl W1).drew.trans hw'; obtain ⟨hc, hff, hz9⟩ := hk.walk; obtain ⟨y0, -⟩ := (hA.ext hk).walk; obtain ⟨y1, -⟩ := (hR.ext hk).walk; have y2 := (hc _ _ hP1).trans cP; have y3 := (hc _ _ hpb).trans cL; have y4 := (hc _ _ hV1).trans cV0; have y5 := (hc _ _ hV1).trans cV1
      refine ⟨rfl, ?_⟩
      simp only [putsL]
      change quietTo _ _ _ _ (Sem.run _ (execOp (Act.eval (Act.put _ (some 15) (sv 0))) _) _)
      try simp only [Act.put, List.setIfInBounds_toArray, List.set_cons_succ, List.set_cons_zero]
      simp [go_sem, quietTo, Ext.refl, ↓IntWalk.iteOmega, f0, y0]
      all_goals try simp (disch := omega) only [IntWalk.i64_in]
      all_goals first
        | rfl
    refine fac_quiet 2 rfl rfl rfl (fun _ _ h _ => h) rfl rfl ?_
    apply Exists.intro
    refine ⟨fun sv w' hw' hfa => ?_, ?_⟩
    · have hk := (Ext.refl W1).drew.trans hw'; obtain ⟨hc, hff, hz9⟩ := hk.walk; obtain ⟨y0, -⟩ := (hA.ext hk).walk; obtain ⟨y1, -⟩ := (hR.ext hk).walk; have y2 := (hc _ _ hP1).trans cP; have y3 := (hc _ _ hpb).trans cL; have y4 := (hc _ _ hV1).trans cV0; have y5 := (hc _ _ hV1).trans cV1
      refine ⟨rfl, ?_⟩
      simp only [putsL]
      change quietTo _ _ _ _ (Sem.run _ (execOp (Act.eval _) _) _)
      try simp only [Act.put, List.setIfInBounds_toArray, List.set_cons_succ, List.set_cons_zero]
      simp [go_sem, quietTo, Ext.refl, ↓IntWalk.iteOmega, y2]
      all_goals try simp (disch := omega) only [IntWalk.i64_in]
      all_goals first
        | rfl
    refine fac_quiet 3 rfl rfl rfl (fun _ _ h _ => h) rfl rfl ?_
    apply Exists.intro
    refine ⟨fun sv w' hw' hfa => ?_, ?_⟩
    · have hk := (Ext.refl W1).drew.trans hw'; obtain ⟨hc, hff, hz9⟩ := hk.walk; obtain ⟨y0, -⟩ := (hA.ext hk).walk; obtain ⟨y1, -⟩ := (hR.ext hk).walk; have y2 := (hc _ _ hP1).trans cP; have y3 := (hc _ _ hpb).trans cL; have y4 := (hc _ _ hV1).trans cV0; have y5 := (hc _ _ hV1).trans cV1
      refine ⟨rfl, ?_⟩
      simp only [putsL]
      change quietTo _ _ _ _ (Sem.run _ (execOp (Act.eval _) _) _)
      try simp only [Act.put, List.setIfInBounds_toArray, List.set_cons_succ, List.set_cons_zero]
      simp [go_sem, quietTo, Ext.refl, ↓IntWalk.iteOmega, y2]
      all_goals try simp (disch := omega) only [IntWalk.i64_in]
      all_goals first
        | rfl
    refine fac_quiet 4 rfl rfl rfl (fun _ _ h _ => h) rfl rfl ?_
    apply Exists.intro
    refine ⟨fun sv w' hw' hfa => ?_, ?_⟩
    · obtain ⟨f3, -⟩ := hfa
      replace f3 : sv 3 = _ := f3
      try dsimp only at f3
      have hk := (Ext.refl W1).drew.trans hw'; obtain ⟨hc, hff, hz9⟩ := hk.walk; obtain ⟨y0, -⟩ := (hA.ext hk).walk; obtain ⟨y1, -⟩ := (hR.ext hk).walk; have y2 := (hc _ _ hP1).trans cP; have y3 := (hc _ _ hpb).trans cL; have y4 := (hc _ _ hV1).trans cV0; have y5 := (hc _ _ hV1).trans cV1
      refine ⟨rfl, ?_⟩
      simp only [putsL]
      change quietTo _ _ _ _ (Sem.run _ (execOp (Act.eval (Act.put _ (some 18) (sv 3))) _) _)
      try simp only [Act.put, List.setIfInBounds_toArray, List.set_cons_succ, List.set_cons_zero]
      simp [go_sem, quietTo, Ext.refl, ↓IntWalk.iteOmega, f3]
      all_goals try simp (disch := omega) only [IntWalk.i64_in]
      all_goals first
        | rfl
    refine fac_quiet 5 rfl rfl rfl (fun _ _ h _ => h) rfl rfl ?_
    apply Exists.intro
    refine ⟨fun sv w' hw' hfa => ?_, ?_⟩
    · obtain ⟨f3, f4, -⟩ := hfa
      replace f3 : sv 3 = _ := f3
      try dsimp only at f3
      replace f4 : sv 4 = _ := f4
      try dsimp only at f4
      have hk := (Ext.refl W1).drew.trans hw'; obtain ⟨hc, hff, hz9⟩ := hk.walk; obtain ⟨y0, -⟩ := (hA.ext hk).walk; obtain ⟨y1, -⟩ := (hR.ext hk).walk; have y2 := (hc _ _ hP1).trans cP; have y3 := (hc _ _ hpb).trans cL; have y4 := (hc _ _ hV1).trans cV0; have y5 := (hc _ _ hV1).trans cV1
      refine ⟨rfl, ?_⟩
      simp only [putsL]
      change quietTo _ _ _ _ (Sem.run _ (execOp (Act.eval (Act.put (Act.put _ (some 19) (sv 4)) (some 18) (sv 3))) _) _)
      try simp only [Act.put, List.setIfInBounds_toArray, List.set_cons_succ, List.set_cons_zero]
      simp [go_sem, quietTo, Ext.refl, ↓IntWalk.iteOmega, f4, hm1, hm3]
      all_goals try simp (disch := omega) only [IntWalk.i64_in]
      all_goals first
        | rfl
    refine fac_quiet 6 rfl rfl rfl (fun _ _ h _ => h) rfl rfl ?_
    apply Exists.intro
    refine ⟨fun sv w' hw' hfa => ?_, ?_⟩
    · obtain ⟨f2, f3, f4, f5, -⟩ := hfa
      replace f2 : sv 2 = _ := f2
      try dsimp only at f2
      replace f3 : sv 3 = _ := f3
      try dsimp only at f3
      replace f4 : sv 4 = _ := f4
      try dsimp only at f4
      replace f5 : sv 5 = _ := f5
      try dsimp only at f5
      have hk := (Ext.refl W1).drew.trans hw'; obtain ⟨hc, hff, hz9⟩ := hk.walk; obtain ⟨y0, -⟩ := (hA.ext hk).walk; obtain ⟨y1, -⟩ := (hR.ext hk).walk; have y2 := (hc _ _ hP1).trans cP; have y3 := (hc _ _ hpb).trans cL; have y4 := (hc _ _ hV1).trans cV0; have y5 := (hc _ _ hV1).trans cV1
      refine ⟨rfl, ?_⟩
      simp only [putsL]
      change quietTo _ _ _ _ (Sem.run _ (execOp (Act.eval (Act.put (Act.put (Act.put (Act.put _ (some 20) (sv 5)) (some 19) (sv 4)) (some 18) (sv 3)) (some 17) (sv 2))) _) _)
      try simp only [Act.put, List.setIfInBounds_toArray, List.set_cons_succ, List.set_cons_zero]
      simp [go_sem, quietTo, Ext.refl, ↓IntWalk.iteOmega, f2, f5, y2, hm1, hm2, hm3]
      all_goals try simp (disch := omega) only [IntWalk.i64_in]
      all_goals first
        | rfl
    refine fac_quiet 7 rfl rfl rfl (fun _ _ h _ => h) rfl rfl ?_
    apply Exists.intro
    refine ⟨fun sv w' hw' hfa => ?_, ?_⟩
    · obtain ⟨f2, f3, f4, f5, f6, -⟩ := hfa
      replace f2 : sv 2 = _ := f2
      try dsimp only at f2
      replace f3 : sv 3 = _ := f3
      try dsimp only at f3
      replace f4 : sv 4 = _ := f4
      try dsimp only at f4
      replace f5 : sv 5 = _ := f5
      try dsimp only at f5
      replace f6 : sv 6 = _ := f6
      try dsimp only at f6
      have hk := (Ext.refl W1).drew.trans hw'; obtain ⟨hc, hff, hz9⟩ := hk.walk; obtain ⟨y0, -⟩ := (hA.ext hk).walk; obtain ⟨y1, -⟩ := (hR.ext hk).walk; have y2 := (hc _ _ hP1).trans cP; have y3 := (hc _ _ hpb).trans cL; have y4 := (hc _ _ hV1).trans cV0; have y5 := (hc _ _ hV1).trans cV1
      refine ⟨rfl, ?_⟩
      simp only [putsL]
      change quietTo _ _ _ _ (Sem.run _ (execOp (Act.eval (Act.put (Act.put (Act.put (Act.put (Act.put _ (some 21) (sv 6)) (some 20) (sv 5)) (some 19) (sv 4)) (some 18) (sv 3)) (some 17) (sv 2))) _) _)
      try simp only [Act.put, List.setIfInBounds_toArray, List.set_cons_succ, List.set_cons_zero]
      simp [go_sem, quietTo, Ext.refl, ↓IntWalk.iteOmega, f6, y3, hm1]
      all_goals try simp (disch := omega) only [IntWalk.i64_in]
      all_goals first
        | rfl
    refine fac_quiet 8 rfl rfl rfl (fun _ _ h _ => h) rfl rfl ?_
    apply Exists.intro
    refine ⟨fun sv w' hw' hfa => ?_, ?_⟩
    · obtain ⟨f0, f1, f2, f3, f4, f5, f6, f7, -⟩ := hfa
      replace f0 : sv 0 = _ := f0
      try dsimp only at f0
      replace f1 : sv 1 = _ := f1
      try dsimp only at f1
      replace f2 : sv 2 = _ := f2
      try dsimp only at f2
      replace f3 : sv 3 = _ := f3
      try dsimp only at f3
      replace f4 : sv 4 = _ := f4
      try dsimp only at f4
      replace f5 : sv 5 = _ := f5
      try dsimp only at f5
      replace f6 : sv 6 = _ := f6
      try dsimp only at f6
      replace f7 : sv 7 = _ := f7
      try dsimp only at f7
      have hk := (Ext.refl W1).drew.trans hw'; obtain ⟨hc, hff, hz9⟩ := hk.walk; obtain ⟨y0, -⟩ := (hA.ext hk).walk; obtain ⟨y1, -⟩ := (hR.ext hk).walk; have y2 := (hc _ _ hP1).trans cP; have y3 := (hc _ _ hpb).trans cL; have y4 := (hc _ _ hV1).trans cV0; have y5 := (hc _ _ hV1).trans cV1
      refine ⟨rfl, ?_⟩
      simp only [putsL]
      change quietTo _ _ _ _ (Sem.run _ (execOp (Act.eval (Act.put (Act.put (Act.put (Act.put (Act.put (Act.put (Act.put (Act.put _ (some 22) (sv 7)) (some 21) (sv 6)) (some 20) (sv 5)) (some 19) (sv 4)) (some 18) (sv 3)) (some 17) (sv 2)) (some 16) (sv 1)) (some 15) (sv 0))) _) _)
      try simp only [Act.put, List.setIfInBounds_toArray, List.set_cons_succ, List.set_cons_zero]
      simp [go_sem, quietTo, Ext.refl, ↓IntWalk.iteOmega, f1, f7, haa]
      all_goals try simp (disch := omega) only [IntWalk.i64_in]
      all_goals first
        | rfl
    refine fac_quiet 9 rfl rfl rfl (fun _ _ h _ => h) rfl rfl ?_
    apply Exists.intro
    refine ⟨fun sv w' hw' hfa => ?_, ?_⟩
    · obtain ⟨f0, f1, f2, f3, f4, f5, f6, f7, f8, -⟩ := hfa
      replace f0 : sv 0 = _ := f0
      try dsimp only at f0
      replace f1 : sv 1 = _ := f1
      try dsimp only at f1
      replace f2 : sv 2 = _ := f2
      try dsimp only at f2
      replace f3 : sv 3 = _ := f3
      try dsimp only at f3
      replace f4 : sv 4 = _ := f4
      try dsimp only at f4
      replace f5 : sv 5 = _ := f5
      try dsimp only at f5
      replace f6 : sv 6 = _ := f6
      try dsimp only at f6
      replace f7 : sv 7 = _ := f7
      try dsimp only at f7
      replace f8 : sv 8 = _ := f8
      try dsimp only at f8
      have hk := (Ext.refl W1).drew.trans hw'; obtain ⟨hc, hff, hz9⟩ := hk.walk; obtain ⟨y0, -⟩ := (hA.ext hk).walk; obtain ⟨y1, -⟩ := (hR.ext hk).walk; have y2 := (hc _ _ hP1).trans cP; have y3 := (hc _ _ hpb).trans cL; have y4 := (hc _ _ hV1).trans cV0; have y5 := (hc _ _ hV1).trans cV1
      refine ⟨rfl, ?_⟩
      simp only [putsL]
      change quietTo _ _ _ _ (Sem.run _ (execOp (Act.eval (Act.put (Act.put (Act.put (Act.put (Act.put (Act.put (Act.put (Act.put (Act.put _ (some 23) (sv 8)) (some 22) (sv 7)) (some 21) (sv 6)) (some 20) (sv 5)) (some 19) (sv 4)) (some 18) (sv 3)) (some 17) (sv 2)) (some 16) (sv 1)) (some 15) (sv 0))) _) _)
      try simp only [Act.put, List.setIfInBounds_toArray, List.set_cons_succ, List.set_cons_zero]
      simp [go_sem, quietTo, Ext.refl, f8]
      all_goals try simp (disch := omega) only [IntWalk.i64_in]
      all_goals first
        | rfl
    refine fac_skip 10 rfl rfl rfl (fun _ _ h _ => h) Ext.refl ?_ ?_
    · intro sv w' hw' hfa
      obtain ⟨f0, f1, f2, f3, f4, f5, f6, f7, f8, f9, -⟩ := hfa
      replace f0 : sv 0 = _ := f0
      try dsimp only at f0
      replace f1 : sv 1 = _ := f1
      try dsimp only at f1
      replace f2 : sv 2 = _ := f2
      try dsimp only at f2
      replace f3 : sv 3 = _ := f3
      try dsimp only at f3
      replace f4 : sv 4 = _ := f4
      try dsimp only at f4
      replace f5 : sv 5 = _ := f5
      try dsimp only at f5
      replace f6 : sv 6 = _ := f6
      try dsimp only at f6
      replace f7 : sv 7 = _ := f7
      try dsimp only at f7
      replace f8 : sv 8 = _ := f8
      try dsimp only at f8
      replace f9 : sv 9 = _ := f9
      try dsimp only at f9
      simp [Region.wanted, yielded, putsL, Act.put, f9]
    refine fac_quiet 11 rfl rfl rfl (fun _ _ h _ => h) rfl rfl ?_
    apply Exists.intro
    refine ⟨fun sv w' hw' hfa => ?_, ?_⟩
    · obtain ⟨f0, f1, f2, f3, f4, f5, f6, f7, f8, f9, f10, -⟩ := hfa
      replace f0 : sv 0 = _ := f0
      try dsimp only at f0
      replace f1 : sv 1 = _ := f1
      try dsimp only at f1
      replace f2 : sv 2 = _ := f2
      try dsimp only at f2
      replace f3 : sv 3 = _ := f3
      try dsimp only at f3
      replace f4 : sv 4 = _ := f4
      try dsimp only at f4
      replace f5 : sv 5 = _ := f5
      try dsimp only at f5
      replace f6 : sv 6 = _ := f6
      try dsimp only at f6
      replace f7 : sv 7 = _ := f7
      try dsimp only at f7
      replace f8 : sv 8 = _ := f8
      try dsimp only at f8
      replace f9 : sv 9 = _ := f9
      try dsimp only at f9
      replace f10 : sv 10 = _ := f10
      try dsimp only at f10
      have hk := (Ext.refl W1).drew.trans hw'; obtain ⟨hc, hff, hz9⟩ := hk.walk; obtain ⟨y0, -⟩ := (hA.ext hk).walk; obtain ⟨y1, -⟩ := (hR.ext hk).walk; have y2 := (hc _ _ hP1).trans cP; have y3 := (hc _ _ hpb).trans cL; have y4 := (hc _ _ hV1).trans cV0; have y5 := (hc _ _ hV1).trans cV1
      refine ⟨rfl, ?_⟩
      simp only [putsL]
      change quietTo _ _ _ _ (Sem.run _ (execOp (Act.eval (Act.put (Act.put (Act.put (Act.put (Act.put (Act.put (Act.put (Act.put (Act.put (Act.put (Act.put _ (some 25) (sv 10)) (some 24) (sv 9)) (some 23) (sv 8)) (some 22) (sv 7)) (some 21) (sv 6)) (some 20) (sv 5)) (some 19) (sv 4)) (some 18) (sv 3)) (some 17) (sv 2)) (some 16) (sv 1)) (some 15) (sv 0))) _) _)
      try simp only [Act.put, List.setIfInBounds_toArray, List.set_cons_succ, List.set_cons_zero]
      simp [go_sem, quietTo, Ext.refl, ↓IntWalk.iteOmega, f9, f10]
      all_goals try simp (disch := omega) only [IntWalk.i64_in]
      all_goals first
        | rfl
    refine fac_quiet 12 rfl rfl rfl (fun _ _ h _ => h) rfl rfl ?_
    apply Exists.intro
    refine ⟨fun sv w' hw' hfa => ?_, ?_⟩
    · obtain ⟨f0, f1, f2, f3, f4, f5, f6, f7, f8, f9, f10, f11, -⟩ := hfa
      replace f0 : sv 0 = _ := f0
      try dsimp only at f0
      replace f1 : sv 1 = _ := f1
      try dsimp only at f1
      replace f2 : sv 2 = _ := f2
      try dsimp only at f2
      replace f3 : sv 3 = _ := f3
      try dsimp only at f3
      replace f4 : sv 4 = _ := f4
      try dsimp only at f4
      replace f5 : sv 5 = _ := f5
      try dsimp only at f5
      replace f6 : sv 6 = _ := f6
      try dsimp only at f6
      replace f7 : sv 7 = _ := f7
      try dsimp only at f7
      replace f8 : sv 8 = _ := f8
      try dsimp only at f8
      replace f9 : sv 9 = _ := f9
      try dsimp only at f9
      replace f10 : sv 10 = _ := f10
      try dsimp only at f10
      replace f11 : sv 11 = _ := f11
      try dsimp only at f11
      have hk := (Ext.refl W1).drew.trans hw'; obtain ⟨hc, hff, hz9⟩ := hk.walk; obtain ⟨y0, -⟩ := (hA.ext hk).walk; obtain ⟨y1, -⟩ := (hR.ext hk).walk; have y2 := (hc _ _ hP1).trans cP; have y3 := (hc _ _ hpb).trans cL; have y4 := (hc _ _ hV1).trans cV0; have y5 := (hc _ _ hV1).trans cV1
      refine ⟨rfl, ?_⟩
      simp only [putsL]
      change quietTo _ _ _ _ (Sem.run _ (execOp (Act.eval (Act.put (Act.put (Act.put (Act.put (Act.put (Act.put (Act.put (Act.put (Act.put (Act.put (Act.put (Act.put _ (some 26) (sv 11)) (some 25) (sv 10)) (some 24) (sv 9)) (some 23) (sv 8)) (some 22) (sv 7)) (some 21) (sv 6)) (some 20) (sv 5)) (some 19) (sv 4)) (some 18) (sv 3)) (some 17) (sv 2)) (some 16) (sv 1)) (some 15) (sv 0))) _) _)
      try simp only [Act.put, List.setIfInBounds_toArray, List.set_cons_succ, List.set_cons_zero]
      simp [go_sem, quietTo, Ext.refl, f11]
      all_goals try simp (disch := omega) only [IntWalk.i64_in]
      all_goals first
        | rfl
    refine fac_skip 13 rfl rfl rfl (fun _ _ h _ => h) Ext.refl ?_ ?_
    · intro sv w' hw' hfa
      obtain ⟨f0, f1, f2, f3, f4, f5, f6, f7, f8, f9, f10, f11, f12, -⟩ := hfa
      replace f0 : sv 0 = _ := f0
      try dsimp only at f0
      replace f1 : sv 1 = _ := f1
      try dsimp only at f1
      replace f2 : sv 2 = _ := f2
      try dsimp only at f2
      replace f3 : sv 3 = _ := f3
      try dsimp only at f3
      replace f4 : sv 4 = _ := f4
      try dsimp only at f4
      replace f5 : sv 5 = _ := f5
      try dsimp only at f5
      replace f6 : sv 6 = _ := f6
      try dsimp only at f6
      replace f7 : sv 7 = _ := f7
      try dsimp only at f7
      replace f8 : sv 8 = _ := f8
      try dsimp only at f8
      replace f9 : sv 9 = _ := f9
      try dsimp only at f9
      replace f10 : sv 10 = _ := f10
      try dsimp only at f10
      replace f11 : sv 11 = _ := f11
      try dsimp only at f11
      replace f12 : sv 12 = _ := f12
      try dsimp only at f12
      simp [Region.wanted, yielded, putsL, Act.put, f12]
    refine fac_skip 14 rfl rfl rfl (fun _ _ h _ => h) Ext.refl ?_ ?_
    · intro sv w' hw' hfa
      obtain ⟨f0, f1, f2, f3, f4, f5, f6, f7, f8, f9, f10, f11, f12, -⟩ := hfa
      replace f0 : sv 0 = _ := f0
      try dsimp only at f0
      replace f1 : sv 1 = _ := f1
      try dsimp only at f1
      replace f2 : sv 2 = _ := f2
      try dsimp only at f2
      replace f3 : sv 3 = _ := f3
      try dsimp only at f3
      replace f4 : sv 4 = _ := f4
      try dsimp only at f4
      replace f5 : sv 5 = _ := f5
      try dsimp only at f5
      replace f6 : sv 6 = _ := f6
      try dsimp only at f6
      replace f7 : sv 7 = _ := f7
      try dsimp only at f7
      replace f8 : sv 8 = _ := f8
      try dsimp only at f8
      replace f9 : sv 9 = _ := f9
      try dsimp only at f9
      replace f10 : sv 10 = _ := f10
      try dsimp only at f10
      replace f11 : sv 11 = _ := f11
      try dsimp only at f11
      replace f12 : sv 12 = _ := f12
      try dsimp only at f12
      simp [Region.wanted, yielded, putsL, Act.put, f12]
    refine fac_skip 15 rfl rfl rfl (fun _ _ h _ => h) Ext.refl ?_ ?_
    · intro sv w' hw' hfa
      obtain ⟨f0, f1, f2, f3, f4, f5, f6, f7, f8, f9, f10, f11, f12, f13, f14, -⟩ := hfa
      replace f0 : sv 0 = _ := f0
      try dsimp only at f0
      replace f1 : sv 1 = _ := f1
      try dsimp only at f1
      replace f2 : sv 2 = _ := f2
      try dsimp only at f2
      replace f3 : sv 3 = _ := f3
      try dsimp only at f3
      replace f4 : sv 4 = _ := f4
      try dsimp only at f4
      replace f5 : sv 5 = _ := f5
      try dsimp only at f5
      replace f6 : sv 6 = _ := f6
      try dsimp only at f6
      replace f7 : sv 7 = _ := f7
      try dsimp only at f7
      replace f8 : sv 8 = _ := f8
      try dsimp only at f8
      replace f9 : sv 9 = _ := f9
      try dsimp only at f9
      replace f10 : sv 10 = _ := f10
      try dsimp only at f10
      replace f11 : sv 11 = _ := f11
      try dsimp only at f11
      replace f12 : sv 12 = _ := f12
      try dsimp only at f12
      replace f13 : sv 13 = _ := f13
      try dsimp only at f13
      replace f14 : sv 14 = _ := f14
      try dsimp only at f14
      simp [Region.wanted, yielded, putsL, Act.put, f12, f13, f14]
    refine fac_skip 16 rfl rfl rfl (fun _ _ h _ => h) Ext.refl ?_ ?_
    · intro sv w' hw' hfa
      obtain ⟨f0, f1, f2, f3, f4, f5, f6, f7, f8, f9, f10, f11, f12, -⟩ := hfa
      replace f0 : sv 0 = _ := f0
      try dsimp only at f0
      replace f1 : sv 1 = _ := f1
      try dsimp only at f1
      replace f2 : sv 2 = _ := f2
      try dsimp only at f2
      replace f3 : sv 3 = _ := f3
      try dsimp only at f3
      replace f4 : sv 4 = _ := f4
      try dsimp only at f4
      replace f5 : sv 5 = _ := f5
      try dsimp only at f5
      replace f6 : sv 6 = _ := f6
      try dsimp only at f6
      replace f7 : sv 7 = _ := f7
      try dsimp only at f7
      replace f8 : sv 8 = _ := f8
      try dsimp only at f8
      replace f9 : sv 9 = _ := f9
      try dsimp only at f9
      replace f10 : sv 10 = _ := f10
      try dsimp only at f10
      replace f11 : sv 11 = _ := f11
      try dsimp only at f11
      replace f12 : sv 12 = _ := f12
      try dsimp only at f12
      simp [Region.wanted, yielded, putsL, Act.put, f12]
    refine fac_skip 17 rfl rfl rfl (fun _ _ h _ => h) Ext.refl ?_ ?_
    · intro sv w' hw' hfa
      obtain ⟨f0, f1, f2, f3, f4, f5, f6, f7, f8, f9, f10, f11, f12, f13, f14, f15, f16, -⟩ := hfa
      replace f0 : sv 0 = _ := f0
      try dsimp only at f0
      replace f1 : sv 1 = _ := f1
      try dsimp only at f1
      replace f2 : sv 2 = _ := f2
      try dsimp only at f2
      replace f3 : sv 3 = _ := f3
      try dsimp only at f3
      replace f4 : sv 4 = _ := f4
      try dsimp only at f4
      replace f5 : sv 5 = _ := f5
      try dsimp only at f5
      replace f6 : sv 6 = _ := f6
      try dsimp only at f6
      replace f7 : sv 7 = _ := f7
      try dsimp only at f7
      replace f8 : sv 8 = _ := f8
      try dsimp only at f8
      replace f9 : sv 9 = _ := f9
      try dsimp only at f9
      replace f10 : sv 10 = _ := f10
      try dsimp only at f10
      replace f11 : sv 11 = _ := f11
      try dsimp only at f11
      replace f12 : sv 12 = _ := f12
      try dsimp only at f12
      replace f13 : sv 13 = _ := f13
      try dsimp only at f13
      replace f14 : sv 14 = _ := f14
      try dsimp only at f14
      replace f15 : sv 15 = _ := f15
      try dsimp only at f15
      replace f16 : sv 16 = _ := f16
      try dsimp only at f16
      simp [Region.wanted, yielded, putsL, Act.put, f12, f15, f16]
    refine fac_quiet 18 rfl rfl rfl (fun _ _ h _ => h) rfl rfl ?_
    apply Exists.intro
    refine ⟨fun sv w' hw' hfa => ?_, ?_⟩
    · obtain ⟨f0, f1, f2, f3, f4, f5, f6, f7, f8, f9, f10, f11, f12, f13, f14, f15, f16, f17, -⟩ := hfa
      replace f0 : sv 0 = _ := f0
      try dsimp only at f0
      replace f1 : sv 1 = _ := f1
      try dsimp only at f1
      replace f2 : sv 2 = _ := f2
      try dsimp only at f2
      replace f3 : sv 3 = _ := f3
      try dsimp only at f3
      replace f4 : sv 4 = _ := f4
      try dsimp only at f4
      replace f5 : sv 5 = _ := f5
      try dsimp only at f5
      replace f6 : sv 6 = _ := f6
      try dsimp only at f6
      replace f7 : sv 7 = _ := f7
      try dsimp only at f7
      replace f8 : sv 8 = _ := f8
      try dsimp only at f8
      replace f9 : sv 9 = _ := f9
      try dsimp only at f9
      replace f10 : sv 10 = _ := f10
      try dsimp only at f10
      replace f11 : sv 11 = _ := f11
      try dsimp only at f11
      replace f12 : sv 12 = _ := f12
      try dsimp only at f12
      replace f13 : sv 13 = _ := f13
      try dsimp only at f13
      replace f14 : sv 14 = _ := f14
      try dsimp only at f14
      replace f15 : sv 15 = _ := f15
      try dsimp only at f15
      replace f16 : sv 16 = _ := f16
      try dsimp only at f16
      replace f17 : sv 17 = _ := f17
      try dsimp only at f17
      have hk := (Ext.refl W1).drew.trans hw'; obtain ⟨hc, hff, hz9⟩ := hk.walk; obtain ⟨y0, -⟩ := (hA.ext hk).walk; obtain ⟨y1, -⟩ := (hR.ext hk).walk; have y2 := (hc _ _ hP1).trans cP; have y3 := (hc _ _ hpb).trans cL; have y4 := (hc _ _ hV1).trans cV0; have y5 := (hc _ _ hV1).trans cV1
      refine ⟨rfl, ?_⟩
      simp only [putsL]
      change quietTo _ _ _ _ (Sem.run _ (execOp (Act.eval (Act.put (Act.put (Act.put (Act.put (Act.put (Act.put (Act.put (Act.put (Act.put (Act.put (Act.put (Act.put (Act.put (Act.put (Act.put (Act.put (Act.put (Act.put _ (some 32) (sv 17)) (some 31) (sv 16)) (some 30) (sv 15)) (some 29) (sv 14)) (some 28) (sv 13)) (some 27) (sv 12)) (some 26) (sv 11)) (some 25) (sv 10)) (some 24) (sv 9)) (some 23) (sv 8)) (some 22) (sv 7)) (some 21) (sv 6)) (some 20) (sv 5)) (some 19) (sv 4)) (some 18) (sv 3)) (some 17) (sv 2)) (some 16) (sv 1)) (some 15) (sv 0))) _) _)
      try simp only [Act.put, List.setIfInBounds_toArray, List.set_cons_succ, List.set_cons_zero]
      simp [go_sem, quietTo, Ext.refl, ↓IntWalk.iteOmega, f12, f17]
      all_goals try simp (disch := omega) only [IntWalk.i64_in]
      all_goals first
        | rfl
    refine fac_quiet 19 rfl rfl rfl (fun _ _ h _ => h) rfl rfl ?_
    apply Exists.intro
    refine ⟨fun sv w' hw' hfa => ?_, ?_⟩
    · obtain ⟨f0, f1, f2, f3, f4, f5, f6, f7, f8, f9, f10, f11, f12, f13, f14, f15, f16, f17, f18, -⟩ := hfa
      replace f0 : sv 0 = _ := f0
      try dsimp only at f0
      replace f1 : sv 1 = _ := f1
      try dsimp only at f1
      replace f2 : sv 2 = _ := f2
      try dsimp only at f2
      replace f3 : sv 3 = _ := f3
      try dsimp only at f3
      replace f4 : sv 4 = _ := f4
      try dsimp only at f4
      replace f5 : sv 5 = _ := f5
      try dsimp only at f5
      replace f6 : sv 6 = _ := f6
      try dsimp only at f6
      replace f7 : sv 7 = _ := f7
      try dsimp only at f7
      replace f8 : sv 8 = _ := f8
      try dsimp only at f8
      replace f9 : sv 9 = _ := f9
      try dsimp only at f9
      replace f10 : sv 10 = _ := f10
      try dsimp only at f10
      replace f11 : sv 11 = _ := f11
      try dsimp only at f11
      replace f12 : sv 12 = _ := f12
      try dsimp only at f12
      replace f13 : sv 13 = _ := f13
      try dsimp only at f13
      replace f14 : sv 14 = _ := f14
      try dsimp only at f14
      replace f15 : sv 15 = _ := f15
      try dsimp only at f15
      replace f16 : sv 16 = _ := f16
      try dsimp only at f16
      replace f17 : sv 17 = _ := f17
      try dsimp only at f17
      replace f18 : sv 18 = _ := f18
      try dsimp only at f18
      have hk := (Ext.refl W1).drew.trans hw'; obtain ⟨hc, hff, hz9⟩ := hk.walk; obtain ⟨y0, -⟩ := (hA.ext hk).walk; obtain ⟨y1, -⟩ := (hR.ext hk).walk; have y2 := (hc _ _ hP1).trans cP; have y3 := (hc _ _ hpb).trans cL; have y4 := (hc _ _ hV1).trans cV0; have y5 := (hc _ _ hV1).trans cV1
      refine ⟨rfl, ?_⟩
      simp only [putsL]
      change quietTo _ _ _ _ (Sem.run _ (execOp (Act.eval (Act.put (Act.put (Act.put (Act.put (Act.put (Act.put (Act.put (Act.put (Act.put (Act.put (Act.put (Act.put (Act.put (Act.put (Act.put (Act.put (Act.put (Act.put (Act.put _ (some 33) (sv 18)) (some 32) (sv 17)) (some 31) (sv 16)) (some 30) (sv 15)) (some 29) (sv 14)) (some 28) (sv 13)) (some 27) (sv 12)) (some 26) (sv 11)) (some 25) (sv 10)) (some 24) (sv 9)) (some 23) (sv 8)) (some 22) (sv 7)) (some 21) (sv 6)) (some 20) (sv 5)) (some 19) (sv 4)) (some 18) (sv 3)) (some 17) (sv 2)) (some 16) (sv 1)) (some 15) (sv 0))) _) _)
      try simp only [Act.put, List.setIfInBounds_toArray, List.set_cons_succ, List.set_cons_zero]
      simp [go_sem, quietTo, Ext.refl, f18]
      all_goals try simp (disch := omega) only [IntWalk.i64_in]
      all_goals first
        | rfl
    refine fac_nil fun xb wrb herb hfrb hcrb holdb hapb => ?_
    obtain ⟨f0, f1, f2, f3, f4, f5, f6, f7, f8, f9, f10, f11, f12, f13, f14, f15, f16, f17, f18, f19, -⟩ := hfrb
    replace f0 : xb 0 = _ := f0
    try dsimp only at f0
    replace f1 : xb 1 = _ := f1
    try dsimp only at f1
    replace f2 : xb 2 = _ := f2
    try dsimp only at f2
    replace f3 : xb 3 = _ := f3
    try dsimp only at f3
    replace f4 : xb 4 = _ := f4
    try dsimp only at f4
    replace f5 : xb 5 = _ := f5
    try dsimp only at f5
    replace f6 : xb 6 = _ := f6
    try dsimp only at f6
    replace f7 : xb 7 = _ := f7
    try dsimp only at f7
    replace f8 : xb 8 = _ := f8
    try dsimp only at f8
    replace f9 : xb 9 = _ := f9
    try dsimp only at f9
    replace f10 : xb 10 = _ := f10
    try dsimp only at f10
    replace f11 : xb 11 = _ := f11
    try dsimp only at f11
    replace f12 : xb 12 = _ := f12
    try dsimp only at f12
    replace f13 : xb 13 = _ := f13
    try dsimp only at f13
    replace f14 : xb 14 = _ := f14
    try dsimp only at f14
    replace f15 : xb 15 = _ := f15
    try dsimp only at f15
    replace f16 : xb 16 = _ := f16
    try dsimp only at f16
    replace f17 : xb 17 = _ := f17
    try dsimp only at f17
    replace f18 : xb 18 = _ := f18
    try dsimp only at f18
    replace f19 : xb 19 = _ := f19
    try dsimp only at f19
    change wpList _ _ _ _ (Act.put (Act.put (Act.put (Act.put (Act.put (Act.put (Act.put (Act.put (Act.put (Act.put (Act.put (Act.put (Act.put (Act.put (Act.put (Act.put (Act.put (Act.put (Act.put (Act.put _ (some 15) (xb 0)) (some 16) (xb 1)) (some 17) (xb 2)) (some 18) (xb 3)) (some 19) (xb 4)) (some 20) (xb 5)) (some 21) (xb 6)) (some 22) (xb 7)) (some 23) (xb 8)) (some 24) (xb 9)) (some 25) (xb 10)) (some 26) (xb 11)) (some 27) (xb 12)) (some 28) (xb 13)) (some 29) (xb 14)) (some 30) (xb 15)) (some 31) (xb 16)) (some 32) (xb 17)) (some 33) (xb 18)) (some 5) (xb 19)) _
    simp only [putsL, Nat.reduceAdd, List.drop_succ_cons, List.drop_zero, List.drop_nil, Act.put, List.setIfInBounds_toArray, List.set_cons_succ, List.set_cons_zero]
    try simp only [f0, f1, f2, f3, f4, f5, f6, f7, f8, f9, f10, f11, f12, f13, f14, f15, f16, f17, f18, f19]
    clear f0 f1 f2 f3 f4 f5 f6 f7 f8 f9 f10 f11 f12 f13 f14 f15 f16 f17 f18 f19
    clear holdb hapb
    go_wp2
    go_ret
    exact ⟨by simp, hE1.trans ((Ext.refl _).drew.trans herb)⟩
  · cases bb
    · go_upto_region 2 with (refine wpList_look rfl _ _ 77 true rfl (.map (some mb)) (.string y.to) _ rfl rfl l1 ?_)
      generalize (W.alloc (.cells #[.string y.fr, .string y.to, .int .i64 y.m] 37)).alloc (.cells #[.int .i64 r1, .int .i64 r2] 80) = W1 at *
      refine wp_region_facts [] [([], false, false), ([0], false, false), ([], false, false), ([], false, false), ([3], false, false), ([3, 4], false, false), ([2, 3, 4, 5], false, false), ([2, 3, 4, 5, 6], false, false), ([0, 1, 2, 3, 4, 5, 6, 7], false, false), ([0, 1, 2, 3, 4, 5, 6, 7, 8], false, false), ([0, 1, 2, 3, 4, 5, 6, 7, 8, 9], false, false), ([0, 1, 2, 3, 4, 5, 6, 7, 8, 9, 10], false, false), ([0, 1, 2, 3, 4, 5, 6, 7, 8, 9, 10, 11], false, false), ([0, 1, 2, 3, 4, 5, 6, 7, 8, 9, 10, 11, 12], false, false), ([0, 1, 2, 3, 4, 5, 6, 7, 8, 9, 10, 11, 12], false, false), ([0, 1, 2, 3, 4, 5, 6, 7, 8, 9, 10, 11, 12, 13, 14], false, false), ([0, 1, 2, 3, 4, 5, 6, 7, 8, 9, 10, 11, 12], false, false), ([0, 1, 2, 3, 4, 5, 6, 7, 8, 9, 10, 11, 12, 13, 14, 15, 16], false, false), ([0, 1, 2, 3, 4, 5, 6, 7, 8, 9, 10, 11, 12, 13, 14, 15, 16, 17], false, false), ([0, 1, 2, 3, 4, 5, 6, 7, 8, 9, 10, 11, 12, 13, 14, 15, 16, 17, 18], false, false)] (Ext) Ext (fun _ => True) (by kernel_rfl) (by kernel_rfl) Ext.refl (fun _ _ _ => Ext.trans) (fun _ _ h => h) (fun _ _ h => h.size) (fun _ _ h _ => h) trivial ?_
      dsimp only [List.length_cons, List.length_nil, List.drop_succ_cons, List.drop_zero, List.drop_nil]
      refine fac_quiet 0 rfl rfl rfl (fun _ _ h _ => h) rfl rfl ?_
      apply Exists.intro
      refine ⟨fun sv w' hw' hfa => ?_, ?_⟩
      · have hk := (Ext.refl W1).drew.trans hw'; obtain ⟨hc, hff, hz9⟩ := hk.walk; obtain ⟨y0, -⟩ := (hA.ext hk).walk; obtain ⟨y1, -⟩ := (hR.ext hk).walk; have y2 := (hc _ _ hP1).trans cP; have y3 := (hc _ _ hpb).trans cL; have y4 := (hc _ _ hV1).trans cV0; have y5 := (hc _ _ hV1).trans cV1
        refine ⟨rfl, ?_⟩
        simp only [putsL]
        change quietTo _ _ _ _ (Sem.run _ (execOp (Act.eval _) _) _)
        try simp only [Act.put, List.setIfInBounds_toArray, List.set_cons_succ, List.set_cons_zero]
        simp [go_sem, quietTo, Ext.refl]
        all_goals try simp (disch := omega) only [IntWalk.i64_in]
        all_goals first
          | rfl
      refine fac_quiet 1 rfl rfl rfl (fun _ _ h _ => h) rfl rfl ?_
      apply Exists.intro
      refine ⟨fun sv w' hw' hfa => ?_, ?_⟩
      · obtain ⟨f0, -⟩ := hfa
        replace f0 : sv 0 = _ := f0
        try dsimp only at f0
        have hk := (Ext.refl W1).drew.trans hw'; obtain ⟨hc, hff, hz9⟩ := hk.walk; obtain ⟨y0, -⟩ := (hA.ext hk).walk; obtain ⟨y1, -⟩ := (hR.ext hk).walk; have y2 := (hc _ _ hP1).trans cP; have y3 := (hc _ _ hpb).trans cL; have y4 := (hc _ _ hV1).trans cV0; have y5 := (hc _ _ hV1).trans cV1
        refine ⟨rfl, ?_⟩
        simp only [putsL]
        change quietTo _ _ _ _ (Sem.run _ (execOp (Act.eval (Act.put _ (some 15) (sv 0))) _) _)
        try simp only [Act.put, List.setIfInBounds_toArray, List.set_cons_succ, List.set_cons_zero]
        simp [go_sem, quietTo, Ext.refl, ↓IntWalk.iteOmega, f0, y0]
        all_goals try simp (disch := omega) only [IntWalk.i64_in]
        all_goals first
          | rfl
      refine fac_quiet 2 rfl rfl rfl (fun _ _ h _ => h) rfl rfl ?_
      apply Exists.intro
      refine ⟨fun sv w' hw' hfa => ?_, ?_⟩
      · have hk := (Ext.refl W1).drew.trans hw'; obtain ⟨hc, hff, hz9⟩ := hk.walk; obtain ⟨y0, -⟩ := (hA.ext hk).walk; obtain ⟨y1, -⟩ := (hR.ext hk).walk; have y2 := (hc _ _ hP1).trans cP; have y3 := (hc _ _ hpb).trans cL; have y4 := (hc _ _ hV1).trans cV0; have y5 := (hc _ _ hV1).trans cV1
        refine ⟨rfl, ?_⟩
        simp only [putsL]
        change quietTo _ _ _ _ (Sem.run _ (execOp (Act.eval _) _) _)
        try simp only [Act.put, List.setIfInBounds_toArray, List.set_cons_succ, List.set_cons_zero]
        simp [go_sem, quietTo, Ext.refl, ↓IntWalk.iteOmega, y2]
        all_goals try simp (disch := omega) only [IntWalk.i64_in]
        all_goals first
          | rfl
      refine fac_quiet 3 rfl rfl rfl (fun _ _ h _ => h) rfl rfl ?_
      apply Exists.intro
      refine ⟨fun sv w' hw' hfa => ?_, ?_⟩
      · have hk := (Ext.refl W1).drew.trans hw'; obtain ⟨hc, hff, hz9⟩ := hk.walk; obtain ⟨y0, -⟩ := (hA.ext hk).walk; obtain ⟨y1, -⟩ := (hR.ext hk).walk; have y2 := (hc _ _ hP1).trans cP; have y3 := (hc _ _ hpb).trans cL; have y4 := (hc _ _ hV1).trans cV0; have y5 := (hc _ _ hV1).trans cV1
        refine ⟨rfl, ?_⟩
        simp only [putsL]
        change quietTo _ _ _ _ (Sem.run _ (execOp (Act.eval _) _) _)
        try simp only [Act.put, List.setIfInBounds_toArray, List.set_cons_succ, List.set_cons_zero]
        simp [go_sem, quietTo, Ext.refl, ↓IntWalk.iteOmega, y2]
        all_goals try simp (disch := omega) only [IntWalk.i64_in]
        all_goals first
          | rfl
      refine fac_quiet 4 rfl rfl rfl (fun _ _ h _ => h) rfl rfl ?_
      apply Exists.intro
      refine ⟨fun sv w' hw' hfa => ?_, ?_⟩
      · obtain ⟨f3, -⟩ := hfa
        replace f3 : sv 3 = _ := f3
        try dsimp only at f3
        have hk := (Ext.refl W1).drew.trans hw'; obtain ⟨hc, hff, hz9⟩ := hk.walk; obtain ⟨y0, -⟩ := (hA.ext hk).walk; obtain ⟨y1, -⟩ := (hR.ext hk).walk; have y2 := (hc _ _ hP1).trans cP; have y3 := (hc _ _ hpb).trans cL; have y4 := (hc _ _ hV1).trans cV0; have y5 := (hc _ _ hV1).trans cV1
        refine ⟨rfl, ?_⟩
        simp only [putsL]
        change quietTo _ _ _ _ (Sem.run _ (execOp (Act.eval (Act.put _ (some 18) (sv 3))) _) _)
        try simp only [Act.put, List.setIfInBounds_toArray, List.set_cons_succ, List.set_cons_zero]
        simp [go_sem, quietTo, Ext.refl, ↓IntWalk.iteOmega, f3]
        all_goals try simp (disch := omega) only [IntWalk.i64_in]
        all_goals first
          | rfl
      refine fac_quiet 5 rfl rfl rfl (fun _ _ h _ => h) rfl rfl ?_
      apply Exists.intro
      refine ⟨fun sv w' hw' hfa => ?_, ?_⟩
      · obtain ⟨f3, f4, -⟩ := hfa
        replace f3 : sv 3 = _ := f3
        try dsimp only at f3
        replace f4 : sv 4 = _ := f4
        try dsimp only at f4
        have hk := (Ext.refl W1).drew.trans hw'; obtain ⟨hc, hff, hz9⟩ := hk.walk; obtain ⟨y0, -⟩ := (hA.ext hk).walk; obtain ⟨y1, -⟩ := (hR.ext hk).walk; have y2 := (hc _ _ hP1).trans cP; have y3 := (hc _ _ hpb).trans cL; have y4 := (hc _ _ hV1).trans cV0; have y5 := (hc _ _ hV1).trans cV1
        refine ⟨rfl, ?_⟩
        simp only [putsL]
        change quietTo _ _ _ _ (Sem.run _ (execOp (Act.eval (Act.put (Act.put _ (some 19) (sv 4)) (some 18) (sv 3))) _) _)
        try simp only [Act.put, List.setIfInBounds_toArray, List.set_cons_succ, List.set_cons_zero]
        simp [go_sem, quietTo, Ext.refl, ↓IntWalk.iteOmega, f4, hm1, hm3]
        all_goals try simp (disch := omega) only [IntWalk.i64_in]
        all_goals first
          | rfl
      refine fac_quiet 6 rfl rfl rfl (fun _ _ h _ => h) rfl rfl ?_
      apply Exists.intro
      refine ⟨fun sv w' hw' hfa => ?_, ?_⟩
      · obtain ⟨f2, f3, f4, f5, -⟩ := hfa
        replace f2 : sv 2 = _ := f2
        try dsimp only at f2
        replace f3 : sv 3 = _ := f3
        try dsimp only at f3
        replace f4 : sv 4 = _ := f4
        try dsimp only at f4
        replace f5 : sv 5 = _ := f5
        try dsimp only at f5
        have hk := (Ext.refl W1).drew.trans hw'; obtain ⟨hc, hff, hz9⟩ := hk.walk; obtain ⟨y0, -⟩ := (hA.ext hk).walk; obtain ⟨y1, -⟩ := (hR.ext hk).walk; have y2 := (hc _ _ hP1).trans cP; have y3 := (hc _ _ hpb).trans cL; have y4 := (hc _ _ hV1).trans cV0; have y5 := (hc _ _ hV1).trans cV1
        refine ⟨rfl, ?_⟩
        simp only [putsL]
        change quietTo _ _ _ _ (Sem.run _ (execOp (Act.eval (Act.put (Act.put (Act.put (Act.put _ (some 20) (sv 5)) (some 19) (sv 4)) (some 18) (sv 3)) (some 17) (sv 2))) _) _)
        try simp only [Act.put, List.setIfInBounds_toArray, List.set_cons_succ, List.set_cons_zero]
        simp [go_sem, quietTo, Ext.refl, ↓IntWalk.iteOmega, f2, f5, y2, hm1, hm2, hm3]
        all_goals try simp (disch := omega) only [IntWalk.i64_in]
        all_goals first
          | rfl
      refine fac_quiet 7 rfl rfl rfl (fun _ _ h _ => h) rfl rfl ?_
      apply Exists.intro
      refine ⟨fun sv w' hw' hfa => ?_, ?_⟩
      · obtain ⟨f2, f3, f4, f5, f6, -⟩ := hfa
        replace f2 : sv 2 = _ := f2
        try dsimp only at f2
        replace f3 : sv 3 = _ := f3
        try dsimp only at f3
        replace f4 : sv 4 = _ := f4
        try dsimp only at f4
        replace f5 : sv 5 = _ := f5
        try dsimp only at f5
        replace f6 : sv 6 = _ := f6
        try dsimp only at f6
        have hk := (Ext.refl W1).drew.trans hw'; obtain ⟨hc, hff, hz9⟩ := hk.walk; obtain ⟨y0, -⟩ := (hA.ext hk).walk; obtain ⟨y1, -⟩ := (hR.ext hk).walk; have y2 := (hc _ _ hP1).trans cP; have y3 := (hc _ _ hpb).trans cL; have y4 := (hc _ _ hV1).trans cV0; have y5 := (hc _ _ hV1).trans cV1
        refine ⟨rfl, ?_⟩
        simp only [putsL]
        change quietTo _ _ _ _ (Sem.run _ (execOp (Act.eval (Act.put (Act.put (Act.put (Act.put (Act.put _ (some 21) (sv 6)) (some 20) (sv 5)) (some 19) (sv 4)) (some 18) (sv 3)) (some 17) (sv 2))) _) _)
        try simp only [Act.put, List.setIfInBounds_toArray, List.set_cons_succ, List.set_cons_zero]
        simp [go_sem, quietTo, Ext.refl, ↓IntWalk.iteOmega, f6, y3, hm1]
        all_goals try simp (disch := omega) only [IntWalk.i64_in]
        all_goals first
          | rfl
      refine fac_quiet 8 rfl rfl rfl (fun _ _ h _ => h) rfl rfl ?_
      apply Exists.intro
      refine ⟨fun sv w' hw' hfa => ?_, ?_⟩
      · obtain ⟨f0, f1, f2, f3, f4, f5, f6, f7, -⟩ := hfa
        replace f0 : sv 0 = _ := f0
        try dsimp only at f0
        replace f1 : sv 1 = _ := f1
        try dsimp only at f1
        replace f2 : sv 2 = _ := f2
        try dsimp only at f2
        replace f3 : sv 3 = _ := f3
        try dsimp only at f3
        replace f4 : sv 4 = _ := f4
        try dsimp only at f4
        replace f5 : sv 5 = _ := f5
        try dsimp only at f5
        replace f6 : sv 6 = _ := f6
        try dsimp only at f6
        replace f7 : sv 7 = _ := f7
        try dsimp only at f7
        have hk := (Ext.refl W1).drew.trans hw'; obtain ⟨hc, hff, hz9⟩ := hk.walk; obtain ⟨y0, -⟩ := (hA.ext hk).walk; obtain ⟨y1, -⟩ := (hR.ext hk).walk; have y2 := (hc _ _ hP1).trans cP; have y3 := (hc _ _ hpb).trans cL; have y4 := (hc _ _ hV1).trans cV0; have y5 := (hc _ _ hV1).trans cV1
        refine ⟨rfl, ?_⟩
        simp only [putsL]
        change quietTo _ _ _ _ (Sem.run _ (execOp (Act.eval (Act.put (Act.put (Act.put (Act.put (Act.put (Act.put (Act.put (Act.put _ (some 22) (sv 7)) (some 21) (sv 6)) (some 20) (sv 5)) (some 19) (sv 4)) (some 18) (sv 3)) (some 17) (sv 2)) (some 16) (sv 1)) (some 15) (sv 0))) _) _)
        try simp only [Act.put, List.setIfInBounds_toArray, List.set_cons_succ, List.set_cons_zero]
        simp [go_sem, quietTo, Ext.refl, ↓IntWalk.iteOmega, f1, f7, haa]
        all_goals try simp (disch := omega) only [IntWalk.i64_in]
        all_goals first
          | rfl
      refine fac_quiet 9 rfl rfl rfl (fun _ _ h _ => h) rfl rfl ?_
      apply Exists.intro
      refine ⟨fun sv w' hw' hfa => ?_, ?_⟩
      · obtain ⟨f0, f1, f2, f3, f4, f5, f6, f7, f8, -⟩ := hfa
        replace f0 : sv 0 = _ := f0
        try dsimp only at f0
        replace f1 : sv 1 = _ := f1
        try dsimp only at f1
        replace f2 : sv 2 = _ := f2
        try dsimp only at f2
        replace f3 : sv 3 = _ := f3
        try dsimp only at f3
        replace f4 : sv 4 = _ := f4
        try dsimp only at f4
        replace f5 : sv 5 = _ := f5
        try dsimp only at f5
        replace f6 : sv 6 = _ := f6
        try dsimp only at f6
        replace f7 : sv 7 = _ := f7
        try dsimp only at f7
        replace f8 : sv 8 = _ := f8
        try dsimp only at f8
        have hk := (Ext.refl W1).drew.trans hw'; obtain ⟨hc, hff, hz9⟩ := hk.walk; obtain ⟨y0, -⟩ := (hA.ext hk).walk; obtain ⟨y1, -⟩ := (hR.ext hk).walk; have y2 := (hc _ _ hP1).trans cP; have y3 := (hc _ _ hpb).trans cL; have y4 := (hc _ _ hV1).trans cV0; have y5 := (hc _ _ hV1).trans cV1
        refine ⟨rfl, ?_⟩
        simp only [putsL]
        change quietTo _ _ _ _ (Sem.run _ (execOp (Act.eval (Act.put (Act.put (Act.put (Act.put (Act.put (Act.put (Act.put (Act.put (Act.put _ (some 23) (sv 8)) (some 22) (sv 7)) (some 21) (sv 6)) (some 20) (sv 5)) (some 19) (sv 4)) (some 18) (sv 3)) (some 17) (sv 2)) (some 16) (sv 1)) (some 15) (sv 0))) _) _)
        try simp only [Act.put, List.setIfInBounds_toArray, List.set_cons_succ, List.set_cons_zero]
        simp [go_sem, quietTo, Ext.refl, f8]
        all_goals try simp (disch := omega) only [IntWalk.i64_in]
        all_goals first
          | rfl
      refine fac_quiet 10 rfl rfl rfl (fun _ _ h _ => h) rfl rfl ?_
      apply Exists.intro
      refine ⟨fun sv w' hw' hfa => ?_, ?_⟩
      · obtain ⟨f0, f1, f2, f3, f4, f5, f6, f7, f8, f9, -⟩ := hfa
        replace f0 : sv 0 = _ := f0
        try dsimp only at f0
        replace f1 : sv 1 = _ := f1
        try dsimp only at f1
        replace f2 : sv 2 = _ := f2
        try dsimp only at f2
        replace f3 : sv 3 = _ := f3
        try dsimp only at f3
        replace f4 : sv 4 = _ := f4
        try dsimp only at f4
        replace f5 : sv 5 = _ := f5
        try dsimp only at f5
        replace f6 : sv 6 = _ := f6
        try dsimp only at f6
        replace f7 : sv 7 = _ := f7
        try dsimp only at f7
        replace f8 : sv 8 = _ := f8
        try dsimp only at f8
        replace f9 : sv 9 = _ := f9
        try dsimp only at f9
        have hk := (Ext.refl W1).drew.trans hw'; obtain ⟨hc, hff, hz9⟩ := hk.walk; obtain ⟨y0, -⟩ := (hA.ext hk).walk; obtain ⟨y1, -⟩ := (hR.ext hk).walk; have y2 := (hc _ _ hP1).trans cP; have y3 := (hc _ _ hpb).trans cL; have y4 := (hc _ _ hV1).trans cV0; have y5 := (hc _ _ hV1).trans cV1
        refine ⟨by simp [Region.wanted, yielded, putsL, Act.put, f9], ?_⟩
        simp only [putsL]
        change quietTo _ _ _ _ (Sem.run _ (execOp (Act.eval (Act.put (Act.put (Act.put (Act.put (Act.put (Act.put (Act.put (Act.put (Act.put (Act.put _ (some 24) (sv 9)) (some 23) (sv 8)) (some 22) (sv 7)) (some 21) (sv 6)) (some 20) (sv 5)) (some 19) (sv 4)) (some 18) (sv 3)) (some 17) (sv 2)) (some 16) (sv 1)) (some 15) (sv 0))) _) _)
        try simp only [Act.put, List.setIfInBounds_toArray, List.set_cons_succ, List.set_cons_zero]
        simp [go_sem, quietTo, Ext.refl, f9]
        all_goals try simp (disch := omega) only [IntWalk.i64_in]
        all_goals first
          | rfl
      refine fac_quiet 11 rfl rfl rfl (fun _ _ h _ => h) rfl rfl ?_
      apply Exists.intro
      refine ⟨fun sv w' hw' hfa => ?_, ?_⟩
      · obtain ⟨f0, f1, f2, f3, f4, f5, f6, f7, f8, f9, f10, -⟩ := hfa
        replace f0 : sv 0 = _ := f0
        try dsimp only at f0
        replace f1 : sv 1 = _ := f1
        try dsimp only at f1
        replace f2 : sv 2 = _ := f2
        try dsimp only at f2
        replace f3 : sv 3 = _ := f3
        try dsimp only at f3
        replace f4 : sv 4 = _ := f4
        try dsimp only at f4
        replace f5 : sv 5 = _ := f5
        try dsimp only at f5
        replace f6 : sv 6 = _ := f6
        try dsimp only at f6
        replace f7 : sv 7 = _ := f7
        try dsimp only at f7
        replace f8 : sv 8 = _ := f8
        try dsimp only at f8
        replace f9 : sv 9 = _ := f9
        try dsimp only at f9
        replace f10 : sv 10 = _ := f10
        try dsimp only at f10
        have hk := (Ext.refl W1).drew.trans hw'; obtain ⟨hc, hff, hz9⟩ := hk.walk; obtain ⟨y0, -⟩ := (hA.ext hk).walk; obtain ⟨y1, -⟩ := (hR.ext hk).walk; have y2 := (hc _ _ hP1).trans cP; have y3 := (hc _ _ hpb).trans cL; have y4 := (hc _ _ hV1).trans cV0; have y5 := (hc _ _ hV1).trans cV1
        refine ⟨rfl, ?_⟩
        simp only [putsL]
        change quietTo _ _ _ _ (Sem.run _ (execOp (Act.eval (Act.put (Act.put (Act.put (Act.put (Act.put (Act.put (Act.put (Act.put (Act.put (Act.put (Act.put _ (some 25) (sv 10)) (some 24) (sv 9)) (some 23) (sv 8)) (some 22) (sv 7)) (some 21) (sv 6)) (some 20) (sv 5)) (some 19) (sv 4)) (some 18) (sv 3)) (some 17) (sv 2)) (some 16) (sv 1)) (some 15) (sv 0))) _) _)
        try simp only [Act.put, List.setIfInBounds_toArray, List.set_cons_succ, List.set_cons_zero]
        simp [go_sem, quietTo, Ext.refl, ↓IntWalk.iteOmega, f9, f10]
        all_goals try simp (disch := omega) only [IntWalk.i64_in]
        all_goals first
          | rfl
      refine fac_quiet 12 rfl rfl rfl (fun _ _ h _ => h) rfl rfl ?_
      apply Exists.intro
      refine ⟨fun sv w' hw' hfa => ?_, ?_⟩
      · obtain ⟨f0, f1, f2, f3, f4, f5, f6, f7, f8, f9, f10, f11, -⟩ := hfa
        replace f0 : sv 0 = _ := f0
        try dsimp only at f0
        replace f1 : sv 1 = _ := f1
        try dsimp only at f1
        replace f2 : sv 2 = _ := f2
        try dsimp only at f2
        replace f3 : sv 3 = _ := f3
        try dsimp only at f3
        replace f4 : sv 4 = _ := f4
        try dsimp only at f4
        replace f5 : sv 5 = _ := f5
        try dsimp only at f5
        replace f6 : sv 6 = _ := f6
        try dsimp only at f6
        replace f7 : sv 7 = _ := f7
        try dsimp only at f7
        replace f8 : sv 8 = _ := f8
        try dsimp only at f8
        replace f9 : sv 9 = _ := f9
        try dsimp only at f9
        replace f10 : sv 10 = _ := f10
        try dsimp only at f10
        replace f11 : sv 11 = _ := f11
        try dsimp only at f11
        have hk := (Ext.refl W1).drew.trans hw'; obtain ⟨hc, hff, hz9⟩ := hk.walk; obtain ⟨y0, -⟩ := (hA.ext hk).walk; obtain ⟨y1, -⟩ := (hR.ext hk).walk; have y2 := (hc _ _ hP1).trans cP; have y3 := (hc _ _ hpb).trans cL; have y4 := (hc _ _ hV1).trans cV0; have y5 := (hc _ _ hV1).trans cV1
        refine ⟨rfl, ?_⟩
        simp only [putsL]
        change quietTo _ _ _ _ (Sem.run _ (execOp (Act.eval (Act.put (Act.put (Act.put (Act.put (Act.put (Act.put (Act.put (Act.put (Act.put (Act.put (Act.put (Act.put _ (some 26) (sv 11)) (some 25) (sv 10)) (some 24) (sv 9)) (some 23) (sv 8)) (some 22) (sv 7)) (some 21) (sv 6)) (some 20) (sv 5)) (some 19) (sv 4)) (some 18) (sv 3)) (some 17) (sv 2)) (some 16) (sv 1)) (some 15) (sv 0))) _) _)
        try simp only [Act.put, List.setIfInBounds_toArray, List.set_cons_succ, List.set_cons_zero]
        simp [go_sem, quietTo, Ext.refl, f11]
        all_goals try simp (disch := omega) only [IntWalk.i64_in]
        all_goals first
          | rfl
      refine fac_skip 13 rfl rfl rfl (fun _ _ h _ => h) Ext.refl ?_ ?_
      · intro sv w' hw' hfa
        obtain ⟨f0, f1, f2, f3, f4, f5, f6, f7, f8, f9, f10, f11, f12, -⟩ := hfa
        replace f0 : sv 0 = _ := f0
        try dsimp only at f0
        replace f1 : sv 1 = _ := f1
        try dsimp only at f1
        replace f2 : sv 2 = _ := f2
        try dsimp only at f2
        replace f3 : sv 3 = _ := f3
        try dsimp only at f3
        replace f4 : sv 4 = _ := f4
        try dsimp only at f4
        replace f5 : sv 5 = _ := f5
        try dsimp only at f5
        replace f6 : sv 6 = _ := f6
        try dsimp only at f6
        replace f7 : sv 7 = _ := f7
        try dsimp only at f7
        replace f8 : sv 8 = _ := f8
        try dsimp only at f8
        replace f9 : sv 9 = _ := f9
        try dsimp only at f9
        replace f10 : sv 10 = _ := f10
        try dsimp only at f10
        replace f11 : sv 11 = _ := f11
        try dsimp only at f11
        replace f12 : sv 12 = _ := f12
        try dsimp only at f12
        simp [Region.wanted, yielded, putsL, Act.put, f12]
      refine fac_skip 14 rfl rfl rfl (fun _ _ h _ => h) Ext.refl ?_ ?_
      · intro sv w' hw' hfa
        obtain ⟨f0, f1, f2, f3, f4, f5, f6, f7, f8, f9, f10, f11, f12, -⟩ := hfa
        replace f0 : sv 0 = _ := f0
        try dsimp only at f0
        replace f1 : sv 1 = _ := f1
        try dsimp only at f1
        replace f2 : sv 2 = _ := f2
        try dsimp only at f2
        replace f3 : sv 3 = _ := f3
        try dsimp only at f3
        replace f4 : sv 4 = _ := f4
        try dsimp only at f4
        replace f5 : sv 5 = _ := f5
        try dsimp only at f5
        replace f6 : sv 6 = _ := f6
        try dsimp only at f6
        replace f7 : sv 7 = _ := f7
        try dsimp only at f7
        replace f8 : sv 8 = _ := f8
        try dsimp only at f8
        replace f9 : sv 9 = _ := f9
        try dsimp only at f9
        replace f10 : sv 10 = _ := f10
        try dsimp only at f10
        replace f11 : sv 11 = _ := f11
        try dsimp only at f11
        replace f12 : sv 12 = _ := f12
        try dsimp only at f12
        simp [Region.wanted, yielded, putsL, Act.put, f12]
      refine fac_skip 15 rfl rfl rfl (fun _ _ h _ => h) Ext.refl ?_ ?_
      · intro sv w' hw' hfa
        obtain ⟨f0, f1, f2, f3, f4, f5, f6, f7, f8, f9, f10, f11, f12, f13, f14, -⟩ := hfa
        replace f0 : sv 0 = _ := f0
        try dsimp only at f0
        replace f1 : sv 1 = _ := f1
        try dsimp only at f1
        replace f2 : sv 2 = _ := f2
        try dsimp only at f2
        replace f3 : sv 3 = _ := f3
        try dsimp only at f3
        replace f4 : sv 4 = _ := f4
        try dsimp only at f4
        replace f5 : sv 5 = _ := f5
        try dsimp only at f5
        replace f6 : sv 6 = _ := f6
        try dsimp only at f6
        replace f7 : sv 7 = _ := f7
        try dsimp only at f7
        replace f8 : sv 8 = _ := f8
        try dsimp only at f8
        replace f9 : sv 9 = _ := f9
        try dsimp only at f9
        replace f10 : sv 10 = _ := f10
        try dsimp only at f10
        replace f11 : sv 11 = _ := f11
        try dsimp only at f11
        replace f12 : sv 12 = _ := f12
        try dsimp only at f12
        replace f13 : sv 13 = _ := f13
        try dsimp only at f13
        replace f14 : sv 14 = _ := f14
        try dsimp only at f14
        simp [Region.wanted, yielded, putsL, Act.put, f12, f13, f14]
      refine fac_skip 16 rfl rfl rfl (fun _ _ h _ => h) Ext.refl ?_ ?_
      · intro sv w' hw' hfa
        obtain ⟨f0, f1, f2, f3, f4, f5, f6, f7, f8, f9, f10, f11, f12, -⟩ := hfa
        replace f0 : sv 0 = _ := f0
        try dsimp only at f0
        replace f1 : sv 1 = _ := f1
        try dsimp only at f1
        replace f2 : sv 2 = _ := f2
        try dsimp only at f2
        replace f3 : sv 3 = _ := f3
        try dsimp only at f3
        replace f4 : sv 4 = _ := f4
        try dsimp only at f4
        replace f5 : sv 5 = _ := f5
        try dsimp only at f5
        replace f6 : sv 6 = _ := f6
        try dsimp only at f6
        replace f7 : sv 7 = _ := f7
        try dsimp only at f7
        replace f8 : sv 8 = _ := f8
        try dsimp only at f8
        replace f9 : sv 9 = _ := f9
        try dsimp only at f9
        replace f10 : sv 10 = _ := f10
        try dsimp only at f10
        replace f11 : sv 11 = _ := f11
        try dsimp only at f11
        replace f12 : sv 12 = _ := f12
        try dsimp only at f12
        simp [Region.wanted, yielded, putsL, Act.put, f12]
      refine fac_skip 17 rfl rfl rfl (fun _ _ h _ => h) Ext.refl ?_ ?_
      · intro sv w' hw' hfa
        obtain ⟨f0, f1, f2, f3, f4, f5, f6, f7, f8, f9, f10, f11, f12, f13, f14, f15, f16, -⟩ := hfa
        replace f0 : sv 0 = _ := f0
        try dsimp only at f0
        replace f1 : sv 1 = _ := f1
        try dsimp only at f1
        replace f2 : sv 2 = _ := f2
        try dsimp only at f2
        replace f3 : sv 3 = _ := f3
        try dsimp only at f3
        replace f4 : sv 4 = _ := f4
        try dsimp only at f4
        replace f5 : sv 5 = _ := f5
        try dsimp only at f5
        replace f6 : sv 6 = _ := f6
        try dsimp only at f6
        replace f7 : sv 7 = _ := f7
        try dsimp only at f7
        replace f8 : sv 8 = _ := f8
        try dsimp only at f8
        replace f9 : sv 9 = _ := f9
        try dsimp only at f9
        replace f10 : sv 10 = _ := f10
        try dsimp only at f10
        replace f11 : sv 11 = _ := f11
        try dsimp only at f11
        replace f12 : sv 12 = _ := f12
        try dsimp only at f12
        replace f13 : sv 13 = _ := f13
        try dsimp only at f13
        replace f14 : sv 14 = _ := f14
        try dsimp only at f14
        replace f15 : sv 15 = _ := f15
        try dsimp only at f15
        replace f16 : sv 16 = _ := f16
        try dsimp only at f16
        simp [Region.wanted, yielded, putsL, Act.put, f12, f15, f16]
      refine fac_quiet 18 rfl rfl rfl (fun _ _ h _ => h) rfl rfl ?_
      apply Exists.intro
      refine ⟨fun sv w' hw' hfa => ?_, ?_⟩
      · obtain ⟨f0, f1, f2, f3, f4, f5, f6, f7, f8, f9, f10, f11, f12, f13, f14, f15, f16, f17, -⟩ := hfa
        replace f0 : sv 0 = _ := f0
        try dsimp only at f0
        replace f1 : sv 1 = _ := f1
        try dsimp only at f1
        replace f2 : sv 2 = _ := f2
        try dsimp only at f2
        replace f3 : sv 3 = _ := f3
        try dsimp only at f3
        replace f4 : sv 4 = _ := f4
        try dsimp only at f4
        replace f5 : sv 5 = _ := f5
        try dsimp only at f5
        replace f6 : sv 6 = _ := f6
        try dsimp only at f6
        replace f7 : sv 7 = _ := f7
        try dsimp only at f7
        replace f8 : sv 8 = _ := f8
        try dsimp only at f8
        replace f9 : sv 9 = _ := f9
        try dsimp only at f9
        replace f10 : sv 10 = _ := f10
        try dsimp only at f10
        replace f11 : sv 11 = _ := f11
        try dsimp only at f11
        replace f12 : sv 12 = _ := f12
        try dsimp only at f12
        replace f13 : sv 13 = _ := f13
        try dsimp only at f13
        replace f14 : sv 14 = _ := f14
        try dsimp only at f14
        replace f15 : sv 15 = _ := f15
        try dsimp only at f15
        replace f16 : sv 16 = _ := f16
        try dsimp only at f16
        replace f17 : sv 17 = _ := f17
        try dsimp only at f17
        have hk := (Ext.refl W1).drew.trans hw'; obtain ⟨hc, hff, hz9⟩ := hk.walk; obtain ⟨y0, -⟩ := (hA.ext hk).walk; obtain ⟨y1, -⟩ := (hR.ext hk).walk; have y2 := (hc _ _ hP1).trans cP; have y3 := (hc _ _ hpb).trans cL; have y4 := (hc _ _ hV1).trans cV0; have y5 := (hc _ _ hV1).trans cV1
        refine ⟨rfl, ?_⟩
        simp only [putsL]
        change quietTo _ _ _ _ (Sem.run _ (execOp (Act.eval (Act.put (Act.put (Act.put (Act.put (Act.put (Act.put (Act.put (Act.put (Act.put (Act.put (Act.put (Act.put (Act.put (Act.put (Act.put (Act.put (Act.put (Act.put _ (some 32) (sv 17)) (some 31) (sv 16)) (some 30) (sv 15)) (some 29) (sv 14)) (some 28) (sv 13)) (some 27) (sv 12)) (some 26) (sv 11)) (some 25) (sv 10)) (some 24) (sv 9)) (some 23) (sv 8)) (some 22) (sv 7)) (some 21) (sv 6)) (some 20) (sv 5)) (some 19) (sv 4)) (some 18) (sv 3)) (some 17) (sv 2)) (some 16) (sv 1)) (some 15) (sv 0))) _) _)
        try simp only [Act.put, List.setIfInBounds_toArray, List.set_cons_succ, List.set_cons_zero]
        simp [go_sem, quietTo, Ext.refl, ↓IntWalk.iteOmega, f12, f17]
        all_goals try simp (disch := omega) only [IntWalk.i64_in]
        all_goals first
          | rfl
      refine fac_quiet 19 rfl rfl rfl (fun _ _ h _ => h) rfl rfl ?_
      apply Exists.intro
      refine ⟨fun sv w' hw' hfa => ?_, ?_⟩
      · obtain ⟨f0, f1, f2, f3, f4, f5, f6, f7, f8, f9, f10, f11, f12, f13, f14, f15, f16, f17, f18, -⟩ := hfa
        replace f0 : sv 0 = _ := f0
        try dsimp only at f0
        replace f1 : sv 1 = _ := f1
        try dsimp only at f1
        replace f2 : sv 2 = _ := f2
        try dsimp only at f2
        replace f3 : sv 3 = _ := f3
        try dsimp only at f3
        replace f4 : sv 4 = _ := f4
        try dsimp only at f4
        replace f5 : sv 5 = _ := f5
        try dsimp only at f5
        replace f6 : sv 6 = _ := f6
        try dsimp only at f6
        replace f7 : sv 7 = _ := f7
        try dsimp only at f7
        replace f8 : sv 8 = _ := f8
        try dsimp only at f8
        replace f9 : sv 9 = _ := f9
        try dsimp only at f9
        replace f10 : sv 10 = _ := f10
        try dsimp only at f10
        replace f11 : sv 11 = _ := f11
        try dsimp only at f11
        replace f12 : sv 12 = _ := f12
        try dsimp only at f12
        replace f13 : sv 13 = _ := f13
        try dsimp only at f13
        replace f14 : sv 14 = _ := f14
        try dsimp only at f14
        replace f15 : sv 15 = _ := f15
        try dsimp only at f15
        replace f16 : sv 16 = _ := f16
        try dsimp only at f16
        replace f17 : sv 17 = _ := f17
        try dsimp only at f17
        replace f18 : sv 18 = _ := f18
        try dsimp only at f18
        have hk := (Ext.refl W1).drew.trans hw'; obtain ⟨hc, hff, hz9⟩ := hk.walk; obtain ⟨y0, -⟩ := (hA.ext hk).walk; obtain ⟨y1, -⟩ := (hR.ext hk).walk; have y2 := (hc _ _ hP1).trans cP; have y3 := (hc _ _ hpb).trans cL; have y4 := (hc _ _ hV1).trans cV0; have y5 := (hc _ _ hV1).trans cV1
        refine ⟨rfl, ?_⟩
        simp only [putsL]
        change quietTo _ _ _ _ (Sem.run _ (execOp (Act.eval (Act.put (Act.put (Act.put (Act.put (Act.put (Act.put (Act.put (Act.put (Act.put (Act.put (Act.put (Act.put (Act.put (Act.put (Act.put (Act.put (Act.put (Act.put (Act.put _ (some 33) (sv 18)) (some 32) (sv 17)) (some 31) (sv 16)) (some 30) (sv 15)) (some 29) (sv 14)) (some 28) (sv 13)) (some 27) (sv 12)) (some 26) (sv 11)) (some 25) (sv 10)) (some 24) (sv 9)) (some 23) (sv 8)) (some 22) (sv 7)) (some 21) (sv 6)) (some 20) (sv 5)) (some 19) (sv 4)) (some 18) (sv 3)) (some 17) (sv 2)) (some 16) (sv 1)) (some 15) (sv 0))) _) _)
        try simp only [Act.put, List.setIfInBounds_toArray, List.set_cons_succ, List.set_cons_zero]
        simp [go_sem, quietTo, Ext.refl, f18]
        all_goals try simp (disch := omega) only [IntWalk.i64_in]
        all_goals first
          | rfl
      refine fac_nil fun xb wrb herb hfrb hcrb holdb hapb => ?_
      obtain ⟨f0, f1, f2, f3, f4, f5, f6, f7, f8, f9, f10, f11, f12, f13, f14, f15, f16, f17, f18, f19, -⟩ := hfrb
      replace f0 : xb 0 = _ := f0
      try dsimp only at f0
      replace f1 : xb 1 = _ := f1
      try dsimp only at f1
      replace f2 : xb 2 = _ := f2
      try dsimp only at f2
      replace f3 : xb 3 = _ := f3
      try dsimp only at f3
      replace f4 : xb 4 = _ := f4
      try dsimp only at f4
      replace f5 : xb 5 = _ := f5
      try dsimp only at f5
      replace f6 : xb 6 = _ := f6
      try dsimp only at f6
      replace f7 : xb 7 = _ := f7
      try dsimp only at f7
      replace f8 : xb 8 = _ := f8
      try dsimp only at f8
      replace f9 : xb 9 = _ := f9
      try dsimp only at f9
      replace f10 : xb 10 = _ := f10
      try dsimp only at f10
      replace f11 : xb 11 = _ := f11
      try dsimp only at f11
      replace f12 : xb 12 = _ := f12
      try dsimp only at f12
      replace f13 : xb 13 = _ := f13
      try dsimp only at f13
      replace f14 : xb 14 = _ := f14
      try dsimp only at f14
      replace f15 : xb 15 = _ := f15
      try dsimp only at f15
      replace f16 : xb 16 = _ := f16
      try dsimp only at f16
      replace f17 : xb 17 = _ := f17
      try dsimp only at f17
      replace f18 : xb 18 = _ := f18
      try dsimp only at f18
      replace f19 : xb 19 = _ := f19
      try dsimp only at f19
      change wpList _ _ _ _ (Act.put (Act.put (Act.put (Act.put (Act.put (Act.put (Act.put (Act.put (Act.put (Act.put (Act.put (Act.put (Act.put (Act.put (Act.put (Act.put (Act.put (Act.put (Act.put (Act.put _ (some 15) (xb 0)) (some 16) (xb 1)) (some 17) (xb 2)) (some 18) (xb 3)) (some 19) (xb 4)) (some 20) (xb 5)) (some 21) (xb 6)) (some 22) (xb 7)) (some 23) (xb 8)) (some 24) (xb 9)) (some 25) (xb 10)) (some 26) (xb 11)) (some 27) (xb 12)) (some 28) (xb 13)) (some 29) (xb 14)) (some 30) (xb 15)) (some 31) (xb 16)) (some 32) (xb 17)) (some 33) (xb 18)) (some 5) (xb 19)) _
      simp only [putsL, Nat.reduceAdd, List.drop_succ_cons, List.drop_zero, List.drop_nil, Act.put, List.setIfInBounds_toArray, List.set_cons_succ, List.set_cons_zero]
      try simp only [f0, f1, f2, f3, f4, f5, f6, f7, f8, f9, f10, f11, f12, f13, f14, f15, f16, f17, f18, f19]
      clear f0 f1 f2 f3 f4 f5 f6 f7 f8 f9 f10 f11 f12 f13 f14 f15 f16 f17 f18 f19
      clear holdb hapb
      go_wp2
      go_ret
      exact ⟨by simp, hE1.trans ((Ext.refl _).drew.trans herb)⟩
    · by_cases h1 : r1 + y.m = v1
      · by_cases h2 : r2 + 1 = v2
        · go_upto_region 2 with (refine wpList_look rfl _ _ 77 true rfl (.map (some mb)) (.string y.to) _ rfl rfl l1 ?_)
          generalize (W.alloc (.cells #[.string y.fr, .string y.to, .int .i64 y.m] 37)).alloc (.cells #[.int .i64 r1, .int .i64 r2] 80) = W1 at *
          refine wp_region_facts [] [([], false, false), ([0], false, false), ([], false, false), ([], false, false), ([3], false, false), ([3, 4], false, false), ([2, 3, 4, 5], false, false), ([2, 3, 4, 5, 6], false, false), ([0, 1, 2, 3, 4, 5, 6, 7], false, false), ([0, 1, 2, 3, 4, 5, 6, 7, 8], false, false), ([0, 1, 2, 3, 4, 5, 6, 7, 8, 9], false, false), ([0, 1, 2, 3, 4, 5, 6, 7, 8, 9, 10], false, false), ([0, 1, 2, 3, 4, 5, 6, 7, 8, 9, 10, 11], false, false), ([0, 1, 2, 3, 4, 5, 6, 7, 8, 9, 10, 11, 12], false, false), ([0, 1, 2, 3, 4, 5, 6, 7, 8, 9, 10, 11, 12], false, false), ([0, 1, 2, 3, 4, 5, 6, 7, 8, 9, 10, 11, 12, 13, 14], false, false), ([0, 1, 2, 3, 4, 5, 6, 7, 8, 9, 10, 11, 12], false, false), ([0, 1, 2, 3, 4, 5, 6, 7, 8, 9, 10, 11, 12, 13, 14, 15, 16], false, false), ([0, 1, 2, 3, 4, 5, 6, 7, 8, 9, 10, 11, 12, 13, 14, 15, 16, 17], false, false), ([0, 1, 2, 3, 4, 5, 6, 7, 8, 9, 10, 11, 12, 13, 14, 15, 16, 17, 18], false, false)] (Ext) Ext (fun _ => True) (by kernel_rfl) (by kernel_rfl) Ext.refl (fun _ _ _ => Ext.trans) (fun _ _ h => h) (fun _ _ h => h.size) (fun _ _ h _ => h) trivial ?_
          dsimp only [List.length_cons, List.length_nil, List.drop_succ_cons, List.drop_zero, List.drop_nil]
          refine fac_quiet 0 rfl rfl rfl (fun _ _ h _ => h) rfl rfl ?_
          apply Exists.intro
          refine ⟨fun sv w' hw' hfa => ?_, ?_⟩
          · have hk := (Ext.refl W1).drew.trans hw'; obtain ⟨hc, hff, hz9⟩ := hk.walk; obtain ⟨y0, -⟩ := (hA.ext hk).walk; obtain ⟨y1, -⟩ := (hR.ext hk).walk; have y2 := (hc _ _ hP1).trans cP; have y3 := (hc _ _ hpb).trans cL; have y4 := (hc _ _ hV1).trans cV0; have y5 := (hc _ _ hV1).trans cV1
            refine ⟨rfl, ?_⟩
            simp only [putsL]
            change quietTo _ _ _ _ (Sem.run _ (execOp (Act.eval _) _) _)
            try simp only [Act.put, List.setIfInBounds_toArray, List.set_cons_succ, List.set_cons_zero]
            simp [go_sem, quietTo, Ext.refl]
            all_goals try simp (disch := omega) only [IntWalk.i64_in]
            all_goals first
              | rfl
          refine fac_quiet 1 rfl rfl rfl (fun _ _ h _ => h) rfl rfl ?_
          apply Exists.intro
          refine ⟨fun sv w' hw' hfa => ?_, ?_⟩
          · obtain ⟨f0, -⟩ := hfa
            replace f0 : sv 0 = _ := f0
            try dsimp only at f0
            have hk := (Ext.refl W1).drew.trans hw'; obtain ⟨hc, hff, hz9⟩ := hk.walk; obtain ⟨y0, -⟩ := (hA.ext hk).walk; obtain ⟨y1, -⟩ := (hR.ext hk).walk; have y2 := (hc _ _ hP1).trans cP; have y3 := (hc _ _ hpb).trans cL; have y4 := (hc _ _ hV1).trans cV0; have y5 := (hc _ _ hV1).trans cV1
            refine ⟨rfl, ?_⟩
            simp only [putsL]
            change quietTo _ _ _ _ (Sem.run _ (execOp (Act.eval (Act.put _ (some 15) (sv 0))) _) _)
            try simp only [Act.put, List.setIfInBounds_toArray, List.set_cons_succ, List.set_cons_zero]
            simp [go_sem, quietTo, Ext.refl, ↓IntWalk.iteOmega, f0, y0]
            all_goals try simp (disch := omega) only [IntWalk.i64_in]
            all_goals first
              | rfl
          refine fac_quiet 2 rfl rfl rfl (fun _ _ h _ => h) rfl rfl ?_
          apply Exists.intro
          refine ⟨fun sv w' hw' hfa => ?_, ?_⟩
          · have hk := (Ext.refl W1).drew.trans hw'; obtain ⟨hc, hff, hz9⟩ := hk.walk; obtain ⟨y0, -⟩ := (hA.ext hk).walk; obtain ⟨y1, -⟩ := (hR.ext hk).walk; have y2 := (hc _ _ hP1).trans cP; have y3 := (hc _ _ hpb).trans cL; have y4 := (hc _ _ hV1).trans cV0; have y5 := (hc _ _ hV1).trans cV1
            refine ⟨rfl, ?_⟩
            simp only [putsL]
            change quietTo _ _ _ _ (Sem.run _ (execOp (Act.eval _) _) _)
            try simp only [Act.put, List.setIfInBounds_toArray, List.set_cons_succ, List.set_cons_zero]
            simp [go_sem, quietTo, Ext.refl, ↓IntWalk.iteOmega, y2]
            all_goals try simp (disch := omega) only [IntWalk.i64_in]
            all_goals first
              | rfl
          refine fac_quiet 3 rfl rfl rfl (fun _ _ h _ => h) rfl rfl ?_
          apply Exists.intro
          refine ⟨fun sv w' hw' hfa => ?_, ?_⟩
          · have hk := (Ext.refl W1).drew.trans hw'; obtain ⟨hc, hff, hz9⟩ := hk.walk; obtain ⟨y0, -⟩ := (hA.ext hk).walk; obtain ⟨y1, -⟩ := (hR.ext hk).walk; have y2 := (hc _ _ hP1).trans cP; have y3 := (hc _ _ hpb).trans cL; have y4 := (hc _ _ hV1).trans cV0; have y5 := (hc _ _ hV1).trans cV1
            refine ⟨rfl, ?_⟩
            simp only [putsL]
            change quietTo _ _ _ _ (Sem.run _ (execOp (Act.eval _) _) _)
            try simp only [Act.put, List.setIfInBounds_toArray, List.set_cons_succ, List.set_cons_zero]
            simp [go_sem, quietTo, Ext.refl, ↓IntWalk.iteOmega, y2]
            all_goals try simp (disch := omega) only [IntWalk.i64_in]
            all_goals first
              | rfl
          refine fac_quiet 4 rfl rfl rfl (fun _ _ h _ => h) rfl rfl ?_
          apply Exists.intro
          refine ⟨fun sv w' hw' hfa => ?_, ?_⟩
          · obtain ⟨f3, -⟩ := hfa
            replace f3 : sv 3 = _ := f3
            try dsimp only at f3
            have hk := (Ext.refl W1).drew.trans hw'; obtain ⟨hc, hff, hz9⟩ := hk.walk; obtain ⟨y0, -⟩ := (hA.ext hk).walk; obtain ⟨y1, -⟩ := (hR.ext hk).walk; have y2 := (hc _ _ hP1).trans cP; have y3 := (hc _ _ hpb).trans cL; have y4 := (hc _ _ hV1).trans cV0; have y5 := (hc _ _ hV1).trans cV1
            refine ⟨rfl, ?_⟩
            simp only [putsL]
            change quietTo _ _ _ _ (Sem.run _ (execOp (Act.eval (Act.put _ (some 18) (sv 3))) _) _)
            try simp only [Act.put, List.setIfInBounds_toArray, List.set_cons_succ, List.set_cons_zero]
            simp [go_sem, quietTo, Ext.refl, ↓IntWalk.iteOmega, f3]
            all_goals try simp (disch := omega) only [IntWalk.i64_in]
            all_goals first
              | rfl
          refine fac_quiet 5 rfl rfl rfl (fun _ _ h _ => h) rfl rfl ?_
          apply Exists.intro
          refine ⟨fun sv w' hw' hfa => ?_, ?_⟩
          · obtain ⟨f3, f4, -⟩ := hfa
            replace f3 : sv 3 = _ := f3
            try dsimp only at f3
            replace f4 : sv 4 = _ := f4
            try dsimp only at f4
            have hk := (Ext.refl W1).drew.trans hw'; obtain ⟨hc, hff, hz9⟩ := hk.walk; obtain ⟨y0, -⟩ := (hA.ext hk).walk; obtain ⟨y1, -⟩ := (hR.ext hk).walk; have y2 := (hc _ _ hP1).trans cP; have y3 := (hc _ _ hpb).trans cL; have y4 := (hc _ _ hV1).trans cV0; have y5 := (hc _ _ hV1).trans cV1
            refine ⟨rfl, ?_⟩
            simp only [putsL]
            change quietTo _ _ _ _ (Sem.run _ (execOp (Act.eval (Act.put (Act.put _ (some 19) (sv 4)) (some 18) (sv 3))) _) _)
            try simp only [Act.put, List.setIfInBounds_toArray, List.set_cons_succ, List.set_cons_zero]
            simp [go_sem, quietTo, Ext.refl, ↓IntWalk.iteOmega, f4, hm1, hm3]
            all_goals try simp (disch := omega) only [IntWalk.i64_in]
            all_goals first
              | rfl
          refine fac_quiet 6 rfl rfl rfl (fun _ _ h _ => h) rfl rfl ?_
          apply Exists.intro
          refine ⟨fun sv w' hw' hfa => ?_, ?_⟩
          · obtain ⟨f2, f3, f4, f5, -⟩ := hfa
            replace f2 : sv 2 = _ := f2
            try dsimp only at f2
            replace f3 : sv 3 = _ := f3
            try dsimp only at f3
            replace f4 : sv 4 = _ := f4
            try dsimp only at f4
            replace f5 : sv 5 = _ := f5
            try dsimp only at f5
            have hk := (Ext.refl W1).drew.trans hw'; obtain ⟨hc, hff, hz9⟩ := hk.walk; obtain ⟨y0, -⟩ := (hA.ext hk).walk; obtain ⟨y1, -⟩ := (hR.ext hk).walk; have y2 := (hc _ _ hP1).trans cP; have y3 := (hc _ _ hpb).trans cL; have y4 := (hc _ _ hV1).trans cV0; have y5 := (hc _ _ hV1).trans cV1
            refine ⟨rfl, ?_⟩
            simp only [putsL]
            change quietTo _ _ _ _ (Sem.run _ (execOp (Act.eval (Act.put (Act.put (Act.put (Act.put _ (some 20) (sv 5)) (some 19) (sv 4)) (some 18) (sv 3)) (some 17) (sv 2))) _) _)
            try simp only [Act.put, List.setIfInBounds_toArray, List.set_cons_succ, List.set_cons_zero]
            simp [go_sem, quietTo, Ext.refl, ↓IntWalk.iteOmega, f2, f5, y2, hm1, hm2, hm3]
            all_goals try simp (disch := omega) only [IntWalk.i64_in]
            all_goals first
              | rfl
          refine fac_quiet 7 rfl rfl rfl (fun _ _ h _ => h) rfl rfl ?_
          apply Exists.intro
          refine ⟨fun sv w' hw' hfa => ?_, ?_⟩
          · obtain ⟨f2, f3, f4, f5, f6, -⟩ := hfa
            replace f2 : sv 2 = _ := f2
            try dsimp only at f2
            replace f3 : sv 3 = _ := f3
            try dsimp only at f3
            replace f4 : sv 4 = _ := f4
            try dsimp only at f4
            replace f5 : sv 5 = _ := f5
            try dsimp only at f5
            replace f6 : sv 6 = _ := f6
            try dsimp only at f6
            have hk := (Ext.refl W1).drew.trans hw'; obtain ⟨hc, hff, hz9⟩ := hk.walk; obtain ⟨y0, -⟩ := (hA.ext hk).walk; obtain ⟨y1, -⟩ := (hR.ext hk).walk; have y2 := (hc _ _ hP1).trans cP; have y3 := (hc _ _ hpb).trans cL; have y4 := (hc _ _ hV1).trans cV0; have y5 := (hc _ _ hV1).trans cV1
            refine ⟨rfl, ?_⟩
            simp only [putsL]
            change quietTo _ _ _ _ (Sem.run _ (execOp (Act.eval (Act.put (Act.put (Act.put (Act.put (Act.put _ (some 21) (sv 6)) (some 20) (sv 5)) (some 19) (sv 4)) (some 18) (sv 3)) (some 17) (sv 2))) _) _)
            try simp only [Act.put, List.setIfInBounds_toArray, List.set_cons_succ, List.set_cons_zero]
            simp [go_sem, quietTo, Ext.refl, ↓IntWalk.iteOmega, f6, y3, hm1]
            all_goals try simp (disch := omega) only [IntWalk.i64_in]
            all_goals first
              | rfl
          refine fac_quiet 8 rfl rfl rfl (fun _ _ h _ => h) rfl rfl ?_
          apply Exists.intro
          refine ⟨fun sv w' hw' hfa => ?_, ?_⟩
          · obtain ⟨f0, f1, f2, f3, f4, f5, f6, f7, -⟩ := hfa
            replace f0 : sv 0 = _ := f0
            try dsimp only at f0
            replace f1 : sv 1 = _ := f1
            try dsimp only at f1
            replace f2 : sv 2 = _ := f2
            try dsimp only at f2
            replace f3 : sv 3 = _ := f3
            try dsimp only at f3
            replace f4 : sv 4 = _ := f4
            try dsimp only at f4
            replace f5 : sv 5 = _ := f5
            try dsimp only at f5
            replace f6 : sv 6 = _ := f6
            try dsimp only at f6
            replace f7 : sv 7 = _ := f7
            try dsimp only at f7
            have hk := (Ext.refl W1).drew.trans hw'; obtain ⟨hc, hff, hz9⟩ := hk.walk; obtain ⟨y0, -⟩ := (hA.ext hk).walk; obtain ⟨y1, -⟩ := (hR.ext hk).walk; have y2 := (hc _ _ hP1).trans cP; have y3 := (hc _ _ hpb).trans cL; have y4 := (hc _ _ hV1).trans cV0; have y5 := (hc _ _ hV1).trans cV1
            refine ⟨rfl, ?_⟩
            simp only [putsL]
            change quietTo _ _ _ _ (Sem.run _ (execOp (Act.eval (Act.put (Act.put (Act.put (Act.put (Act.put (Act.put (Act.put (Act.put _ (some 22) (sv 7)) (some 21) (sv 6)) (some 20) (sv 5)) (some 19) (sv 4)) (some 18) (sv 3)) (some 17) (sv 2)) (some 16) (sv 1)) (some 15) (sv 0))) _) _)
            try simp only [Act.put, List.setIfInBounds_toArray, List.set_cons_succ, List.set_cons_zero]
            simp [go_sem, quietTo, Ext.refl, ↓IntWalk.iteOmega, f1, f7, haa]
            all_goals try simp (disch := omega) only [IntWalk.i64_in]
            all_goals first
              | rfl
          refine fac_quiet 9 rfl rfl rfl (fun _ _ h _ => h) rfl rfl ?_
          apply Exists.intro
          refine ⟨fun sv w' hw' hfa => ?_, ?_⟩
          · obtain ⟨f0, f1, f2, f3, f4, f5, f6, f7, f8, -⟩ := hfa
            replace f0 : sv 0 = _ := f0
            try dsimp only at f0
            replace f1 : sv 1 = _ := f1
            try dsimp only at f1
            replace f2 : sv 2 = _ := f2
            try dsimp only at f2
            replace f3 : sv 3 = _ := f3
            try dsimp only at f3
            replace f4 : sv 4 = _ := f4
            try dsimp only at f4
            replace f5 : sv 5 = _ := f5
            try dsimp only at f5
            replace f6 : sv 6 = _ := f6
            try dsimp only at f6
            replace f7 : sv 7 = _ := f7
            try dsimp only at f7
            replace f8 : sv 8 = _ := f8
            try dsimp only at f8
            have hk := (Ext.refl W1).drew.trans hw'; obtain ⟨hc, hff, hz9⟩ := hk.walk; obtain ⟨y0, -⟩ := (hA.ext hk).walk; obtain ⟨y1, -⟩ := (hR.ext hk).walk; have y2 := (hc _ _ hP1).trans cP; have y3 := (hc _ _ hpb).trans cL; have y4 := (hc _ _ hV1).trans cV0; have y5 := (hc _ _ hV1).trans cV1
            refine ⟨rfl, ?_⟩
            simp only [putsL]
            change quietTo _ _ _ _ (Sem.run _ (execOp (Act.eval (Act.put (Act.put (Act.put (Act.put (Act.put (Act.put (Act.put (Act.put (Act.put _ (some 23) (sv 8)) (some 22) (sv 7)) (some 21) (sv 6)) (some 20) (sv 5)) (some 19) (sv 4)) (some 18) (sv 3)) (some 17) (sv 2)) (some 16) (sv 1)) (some 15) (sv 0))) _) _)
            try simp only [Act.put, List.setIfInBounds_toArray, List.set_cons_succ, List.set_cons_zero]
            simp [go_sem, quietTo, Ext.refl, f8]
            all_goals try simp (disch := omega) only [IntWalk.i64_in]
            all_goals first
              | rfl
          refine fac_quiet 10 rfl rfl rfl (fun _ _ h _ => h) rfl rfl ?_
          apply Exists.intro
          refine ⟨fun sv w' hw' hfa => ?_, ?_⟩
          · obtain ⟨f0, f1, f2, f3, f4, f5, f6, f7, f8, f9, -⟩ := hfa
            replace f0 : sv 0 = _ := f0
            try dsimp only at f0
            replace f1 : sv 1 = _ := f1
            try dsimp only at f1
            replace f2 : sv 2 = _ := f2
            try dsimp only at f2
            replace f3 : sv 3 = _ := f3
            try dsimp only at f3
            replace f4 : sv 4 = _ := f4
            try dsimp only at f4
            replace f5 : sv 5 = _ := f5
            try dsimp only at f5
            replace f6 : sv 6 = _ := f6
            try dsimp only at f6
            replace f7 : sv 7 = _ := f7
            try dsimp only at f7
            replace f8 : sv 8 = _ := f8
            try dsimp only at f8
            replace f9 : sv 9 = _ := f9
            try dsimp only at f9
            have hk := (Ext.refl W1).drew.trans hw'; obtain ⟨hc, hff, hz9⟩ := hk.walk; obtain ⟨y0, -⟩ := (hA.ext hk).walk; obtain ⟨y1, -⟩ := (hR.ext hk).walk; have y2 := (hc _ _ hP1).trans cP; have y3 := (hc _ _ hpb).trans cL; have y4 := (hc _ _ hV1).trans cV0; have y5 := (hc _ _ hV1).trans cV1
            refine ⟨by simp [Region.wanted, yielded, putsL, Act.put, f9], ?_⟩
            simp only [putsL]
            change quietTo _ _ _ _ (Sem.run _ (execOp (Act.eval (Act.put (Act.put (Act.put (Act.put (Act.put (Act.put (Act.put (Act.put (Act.put (Act.put _ (some 24) (sv 9)) (some 23) (sv 8)) (some 22) (sv 7)) (some 21) (sv 6)) (some 20) (sv 5)) (some 19) (sv 4)) (some 18) (sv 3)) (some 17) (sv 2)) (some 16) (sv 1)) (some 15) (sv 0))) _) _)
            try simp only [Act.put, List.setIfInBounds_toArray, List.set_cons_succ, List.set_cons_zero]
            simp [go_sem, quietTo, Ext.refl, f9]
            all_goals try simp (disch := omega) only [IntWalk.i64_in]
            all_goals first
              | rfl
          refine fac_quiet 11 rfl rfl rfl (fun _ _ h _ => h) rfl rfl ?_
          apply Exists.intro
          refine ⟨fun sv w' hw' hfa => ?_, ?_⟩
          · obtain ⟨f0, f1, f2, f3, f4, f5, f6, f7, f8, f9, f10, -⟩ := hfa
            replace f0 : sv 0 = _ := f0
            try dsimp only at f0
            replace f1 : sv 1 = _ := f1
            try dsimp only at f1
            replace f2 : sv 2 = _ := f2
            try dsimp only at f2
            replace f3 : sv 3 = _ := f3
            try dsimp only at f3
            replace f4 : sv 4 = _ := f4
            try dsimp only at f4
            replace f5 : sv 5 = _ := f5
            try dsimp only at f5
            replace f6 : sv 6 = _ := f6
            try dsimp only at f6
            replace f7 : sv 7 = _ := f7
            try dsimp only at f7
            replace f8 : sv 8 = _ := f8
            try dsimp only at f8
            replace f9 : sv 9 = _ := f9
            try dsimp only at f9
            replace f10 : sv 10 = _ := f10
            try dsimp only at f10
            have hk := (Ext.refl W1).drew.trans hw'; obtain ⟨hc, hff, hz9⟩ := hk.walk; obtain ⟨y0, -⟩ := (hA.ext hk).walk; obtain ⟨y1, -⟩ := (hR.ext hk).walk; have y2 := (hc _ _ hP1).trans cP; have y3 := (hc _ _ hpb).trans cL; have y4 := (hc _ _ hV1).trans cV0; have y5 := (hc _ _ hV1).trans cV1
            refine ⟨rfl, ?_⟩
            simp only [putsL]
            change quietTo _ _ _ _ (Sem.run _ (execOp (Act.eval (Act.put (Act.put (Act.put (Act.put (Act.put (Act.put (Act.put (Act.put (Act.put (Act.put (Act.put _ (some 25) (sv 10)) (some 24) (sv 9)) (some 23) (sv 8)) (some 22) (sv 7)) (some 21) (sv 6)) (some 20) (sv 5)) (some 19) (sv 4)) (some 18) (sv 3)) (some 17) (sv 2)) (some 16) (sv 1)) (some 15) (sv 0))) _) _)
            try simp only [Act.put, List.setIfInBounds_toArray, List.set_cons_succ, List.set_cons_zero]
            simp [go_sem, quietTo, Ext.refl, ↓IntWalk.iteOmega, f9, f10]
            all_goals try simp (disch := omega) only [IntWalk.i64_in]
            all_goals first
              | rfl
          refine fac_quiet 12 rfl rfl rfl (fun _ _ h _ => h) rfl rfl ?_
          apply Exists.intro
          refine ⟨fun sv w' hw' hfa => ?_, ?_⟩
          · obtain ⟨f0, f1, f2, f3, f4, f5, f6, f7, f8, f9, f10, f11, -⟩ := hfa
            replace f0 : sv 0 = _ := f0
            try dsimp only at f0
            replace f1 : sv 1 = _ := f1
            try dsimp only at f1
            replace f2 : sv 2 = _ := f2
            try dsimp only at f2
            replace f3 : sv 3 = _ := f3
            try dsimp only at f3
            replace f4 : sv 4 = _ := f4
            try dsimp only at f4
            replace f5 : sv 5 = _ := f5
            try dsimp only at f5
            replace f6 : sv 6 = _ := f6
            try dsimp only at f6
            replace f7 : sv 7 = _ := f7
            try dsimp only at f7
            replace f8 : sv 8 = _ := f8
            try dsimp only at f8
            replace f9 : sv 9 = _ := f9
            try dsimp only at f9
            replace f10 : sv 10 = _ := f10
            try dsimp only at f10
            replace f11 : sv 11 = _ := f11
            try dsimp only at f11
            have hk := (Ext.refl W1).drew.trans hw'; obtain ⟨hc, hff, hz9⟩ := hk.walk; obtain ⟨y0, -⟩ := (hA.ext hk).walk; obtain ⟨y1, -⟩ := (hR.ext hk).walk; have y2 := (hc _ _ hP1).trans cP; have y3 := (hc _ _ hpb).trans cL; have y4 := (hc _ _ hV1).trans cV0; have y5 := (hc _ _ hV1).trans cV1
            refine ⟨rfl, ?_⟩
            simp only [putsL]
            change quietTo _ _ _ _ (Sem.run _ (execOp (Act.eval (Act.put (Act.put (Act.put (Act.put (Act.put (Act.put (Act.put (Act.put (Act.put (Act.put (Act.put (Act.put _ (some 26) (sv 11)) (some 25) (sv 10)) (some 24) (sv 9)) (some 23) (sv 8)) (some 22) (sv 7)) (some 21) (sv 6)) (some 20) (sv 5)) (some 19) (sv 4)) (some 18) (sv 3)) (some 17) (sv 2)) (some 16) (sv 1)) (some 15) (sv 0))) _) _)
            try simp only [Act.put, List.setIfInBounds_toArray, List.set_cons_succ, List.set_cons_zero]
            simp [go_sem, quietTo, Ext.refl, f11]
            all_goals try simp (disch := omega) only [IntWalk.i64_in]
            all_goals first
              | rfl
          refine fac_quiet 13 rfl rfl rfl (fun _ _ h _ => h) rfl rfl ?_
          apply Exists.intro
          refine ⟨fun sv w' hw' hfa => ?_, ?_⟩
          · obtain ⟨f0, f1, f2, f3, f4, f5, f6, f7, f8, f9, f10, f11, f12, -⟩ := hfa
            replace f0 : sv 0 = _ := f0
            try dsimp only at f0
            replace f1 : sv 1 = _ := f1
            try dsimp only at f1
            replace f2 : sv 2 = _ := f2
            try dsimp only at f2
            replace f3 : sv 3 = _ := f3
            try dsimp only at f3
            replace f4 : sv 4 = _ := f4
            try dsimp only at f4
            replace f5 : sv 5 = _ := f5
            try dsimp only at f5
            replace f6 : sv 6 = _ := f6
            try dsimp only at f6
            replace f7 : sv 7 = _ := f7
            try dsimp only at f7
            replace f8 : sv 8 = _ := f8
            try dsimp only at f8
            replace f9 : sv 9 = _ := f9
            try dsimp only at f9
            replace f10 : sv 10 = _ := f10
            try dsimp only at f10
            replace f11 : sv 11 = _ := f11
            try dsimp only at f11
            replace f12 : sv 12 = _ := f12
            try dsimp only at f12
            have hk := (Ext.refl W1).drew.trans hw'; obtain ⟨hc, hff, hz9⟩ := hk.walk; obtain ⟨y0, -⟩ := (hA.ext hk).walk; obtain ⟨y1, -⟩ := (hR.ext hk).walk; have y2 := (hc _ _ hP1).trans cP; have y3 := (hc _ _ hpb).trans cL; have y4 := (hc _ _ hV1).trans cV0; have y5 := (hc _ _ hV1).trans cV1
            refine ⟨by simp [Region.wanted, yielded, putsL, Act.put, f12], ?_⟩
            simp only [putsL]
            change quietTo _ _ _ _ (Sem.run _ (execOp (Act.eval (Act.put (Act.put (Act.put (Act.put (Act.put (Act.put (Act.put (Act.put (Act.put (Act.put (Act.put (Act.put (Act.put _ (some 27) (sv 12)) (some 26) (sv 11)) (some 25) (sv 10)) (some 24) (sv 9)) (some 23) (sv 8)) (some 22) (sv 7)) (some 21) (sv 6)) (some 20) (sv 5)) (some 19) (sv 4)) (some 18) (sv 3)) (some 17) (sv 2)) (some 16) (sv 1)) (some 15) (sv 0))) _) _)
            try simp only [Act.put, List.setIfInBounds_toArray, List.set_cons_succ, List.set_cons_zero]
            simp [go_sem, quietTo, Ext.refl, ↓IntWalk.iteOmega, f12, y1]
            all_goals try simp (disch := omega) only [IntWalk.i64_in]
            all_goals first
              | rfl
          refine fac_quiet 14 rfl rfl rfl (fun _ _ h _ => h) rfl rfl ?_
          apply Exists.intro
          refine ⟨fun sv w' hw' hfa => ?_, ?_⟩
          · obtain ⟨f0, f1, f2, f3, f4, f5, f6, f7, f8, f9, f10, f11, f12, -⟩ := hfa
            replace f0 : sv 0 = _ := f0
            try dsimp only at f0
            replace f1 : sv 1 = _ := f1
            try dsimp only at f1
            replace f2 : sv 2 = _ := f2
            try dsimp only at f2
            replace f3 : sv 3 = _ := f3
            try dsimp only at f3
            replace f4 : sv 4 = _ := f4
            try dsimp only at f4
            replace f5 : sv 5 = _ := f5
            try dsimp only at f5
            replace f6 : sv 6 = _ := f6
            try dsimp only at f6
            replace f7 : sv 7 = _ := f7
            try dsimp only at f7
            replace f8 : sv 8 = _ := f8
            try dsimp only at f8
            replace f9 : sv 9 = _ := f9
            try dsimp only at f9
            replace f10 : sv 10 = _ := f10
            try dsimp only at f10
            replace f11 : sv 11 = _ := f11
            try dsimp only at f11
            replace f12 : sv 12 = _ := f12
            try dsimp only at f12
            have hk := (Ext.refl W1).drew.trans hw'; obtain ⟨hc, hff, hz9⟩ := hk.walk; obtain ⟨y0, -⟩ := (hA.ext hk).walk; obtain ⟨y1, -⟩ := (hR.ext hk).walk; have y2 := (hc _ _ hP1).trans cP; have y3 := (hc _ _ hpb).trans cL; have y4 := (hc _ _ hV1).trans cV0; have y5 := (hc _ _ hV1).trans cV1
            refine ⟨by simp [Region.wanted, yielded, putsL, Act.put, f12], ?_⟩
            simp only [putsL]
            change quietTo _ _ _ _ (Sem.run _ (execOp (Act.eval (Act.put (Act.put (Act.put (Act.put (Act.put (Act.put (Act.put (Act.put (Act.put (Act.put (Act.put (Act.put (Act.put _ (some 27) (sv 12)) (some 26) (sv 11)) (some 25) (sv 10)) (some 24) (sv 9)) (some 23) (sv 8)) (some 22) (sv 7)) (some 21) (sv 6)) (some 20) (sv 5)) (some 19) (sv 4)) (some 18) (sv 3)) (some 17) (sv 2)) (some 16) (sv 1)) (some 15) (sv 0))) _) _)
            try simp only [Act.put, List.setIfInBounds_toArray, List.set_cons_succ, List.set_cons_zero]
            simp [go_sem, quietTo, Ext.refl, ↓IntWalk.iteOmega, f12, y0]
            all_goals try simp (disch := omega) only [IntWalk.i64_in]
            all_goals first
              | rfl
          refine fac_quiet 15 rfl rfl rfl (fun _ _ h _ => h) rfl rfl ?_
          apply Exists.intro
          refine ⟨fun sv w' hw' hfa => ?_, ?_⟩
          · obtain ⟨f0, f1, f2, f3, f4, f5, f6, f7, f8, f9, f10, f11, f12, f13, f14, -⟩ := hfa
            replace f0 : sv 0 = _ := f0
            try dsimp only at f0
            replace f1 : sv 1 = _ := f1
            try dsimp only at f1
            replace f2 : sv 2 = _ := f2
            try dsimp only at f2
            replace f3 : sv 3 = _ := f3
            try dsimp only at f3
            replace f4 : sv 4 = _ := f4
            try dsimp only at f4
            replace f5 : sv 5 = _ := f5
            try dsimp only at f5
            replace f6 : sv 6 = _ := f6
            try dsimp only at f6
            replace f7 : sv 7 = _ := f7
            try dsimp only at f7
            replace f8 : sv 8 = _ := f8
            try dsimp only at f8
            replace f9 : sv 9 = _ := f9
            try dsimp only at f9
            replace f10 : sv 10 = _ := f10
            try dsimp only at f10
            replace f11 : sv 11 = _ := f11
            try dsimp only at f11
            replace f12 : sv 12 = _ := f12
            try dsimp only at f12
            replace f13 : sv 13 = _ := f13
            try dsimp only at f13
            replace f14 : sv 14 = _ := f14
            try dsimp only at f14
            have hk := (Ext.refl W1).drew.trans hw'; obtain ⟨hc, hff, hz9⟩ := hk.walk; obtain ⟨y0, -⟩ := (hA.ext hk).walk; obtain ⟨y1, -⟩ := (hR.ext hk).walk; have y2 := (hc _ _ hP1).trans cP; have y3 := (hc _ _ hpb).trans cL; have y4 := (hc _ _ hV1).trans cV0; have y5 := (hc _ _ hV1).trans cV1
            refine ⟨by simp [Region.wanted, yielded, putsL, Act.put, f12, f13, f14], ?_⟩
            simp only [putsL]
            change quietTo _ _ _ _ (Sem.run _ (execOp (Act.eval (Act.put (Act.put (Act.put (Act.put (Act.put (Act.put (Act.put (Act.put (Act.put (Act.put (Act.put (Act.put (Act.put (Act.put (Act.put _ (some 29) (sv 14)) (some 28) (sv 13)) (some 27) (sv 12)) (some 26) (sv 11)) (some 25) (sv 10)) (some 24) (sv 9)) (some 23) (sv 8)) (some 22) (sv 7)) (some 21) (sv 6)) (some 20) (sv 5)) (some 19) (sv 4)) (some 18) (sv 3)) (some 17) (sv 2)) (some 16) (sv 1)) (some 15) (sv 0))) _) _)
            try simp only [Act.put, List.setIfInBounds_toArray, List.set_cons_succ, List.set_cons_zero]
            simp [go_sem, quietTo, Ext.refl, ↓IntWalk.iteOmega, f12, f13, f14]
            all_goals try simp (disch := omega) only [IntWalk.i64_in]
            all_goals first
              | rfl
              | (exact hby.out _)
          refine fac_quiet 16 rfl rfl rfl (fun _ _ h _ => h) rfl rfl ?_
          apply Exists.intro
          refine ⟨fun sv w' hw' hfa => ?_, ?_⟩
          · obtain ⟨f0, f1, f2, f3, f4, f5, f6, f7, f8, f9, f10, f11, f12, -⟩ := hfa
            replace f0 : sv 0 = _ := f0
            try dsimp only at f0
            replace f1 : sv 1 = _ := f1
            try dsimp only at f1
            replace f2 : sv 2 = _ := f2
            try dsimp only at f2
            replace f3 : sv 3 = _ := f3
            try dsimp only at f3
            replace f4 : sv 4 = _ := f4
            try dsimp only at f4
            replace f5 : sv 5 = _ := f5
            try dsimp only at f5
            replace f6 : sv 6 = _ := f6
            try dsimp only at f6
            replace f7 : sv 7 = _ := f7
            try dsimp only at f7
            replace f8 : sv 8 = _ := f8
            try dsimp only at f8
            replace f9 : sv 9 = _ := f9
            try dsimp only at f9
            replace f10 : sv 10 = _ := f10
            try dsimp only at f10
            replace f11 : sv 11 = _ := f11
            try dsimp only at f11
            replace f12 : sv 12 = _ := f12
            try dsimp only at f12
            have hk := (Ext.refl W1).drew.trans hw'; obtain ⟨hc, hff, hz9⟩ := hk.walk; obtain ⟨y0, -⟩ := (hA.ext hk).walk; obtain ⟨y1, -⟩ := (hR.ext hk).walk; have y2 := (hc _ _ hP1).trans cP; have y3 := (hc _ _ hpb).trans cL; have y4 := (hc _ _ hV1).trans cV0; have y5 := (hc _ _ hV1).trans cV1
            refine ⟨by simp [Region.wanted, yielded, putsL, Act.put, f12], ?_⟩
            simp only [putsL]
            change quietTo _ _ _ _ (Sem.run _ (execOp (Act.eval (Act.put (Act.put (Act.put (Act.put (Act.put (Act.put (Act.put (Act.put (Act.put (Act.put (Act.put (Act.put (Act.put _ (some 27) (sv 12)) (some 26) (sv 11)) (some 25) (sv 10)) (some 24) (sv 9)) (some 23) (sv 8)) (some 22) (sv 7)) (some 21) (sv 6)) (some 20) (sv 5)) (some 19) (sv 4)) (some 18) (sv 3)) (some 17) (sv 2)) (some 16) (sv 1)) (some 15) (sv 0))) _) _)
            try simp only [Act.put, List.setIfInBounds_toArray, List.set_cons_succ, List.set_cons_zero]
            simp [go_sem, quietTo, Ext.refl, ↓IntWalk.iteOmega, f12, y4, y5]
            all_goals try simp (disch := omega) only [IntWalk.i64_in]
            all_goals first
              | rfl
          refine fac_quiet 17 rfl rfl rfl (fun _ _ h _ => h) rfl rfl ?_
          apply Exists.intro
          refine ⟨fun sv w' hw' hfa => ?_, ?_⟩
          · obtain ⟨f0, f1, f2, f3, f4, f5, f6, f7, f8, f9, f10, f11, f12, f13, f14, f15, f16, -⟩ := hfa
            replace f0 : sv 0 = _ := f0
            try dsimp only at f0
            replace f1 : sv 1 = _ := f1
            try dsimp only at f1
            replace f2 : sv 2 = _ := f2
            try dsimp only at f2
            replace f3 : sv 3 = _ := f3
            try dsimp only at f3
            replace f4 : sv 4 = _ := f4
            try dsimp only at f4
            replace f5 : sv 5 = _ := f5
            try dsimp only at f5
            replace f6 : sv 6 = _ := f6
            try dsimp only at f6
            replace f7 : sv 7 = _ := f7
            try dsimp only at f7
            replace f8 : sv 8 = _ := f8
            try dsimp only at f8
            replace f9 : sv 9 = _ := f9
            try dsimp only at f9
            replace f10 : sv 10 = _ := f10
            try dsimp only at f10
            replace f11 : sv 11 = _ := f11
            try dsimp only at f11
            replace f12 : sv 12 = _ := f12
            try dsimp only at f12
            replace f13 : sv 13 = _ := f13
            try dsimp only at f13
            replace f14 : sv 14 = _ := f14
            try dsimp only at f14
            replace f15 : sv 15 = _ := f15
            try dsimp only at f15
            replace f16 : sv 16 = _ := f16
            try dsimp only at f16
            have hk := (Ext.refl W1).drew.trans hw'; obtain ⟨hc, hff, hz9⟩ := hk.walk; obtain ⟨y0, -⟩ := (hA.ext hk).walk; obtain ⟨y1, -⟩ := (hR.ext hk).walk; have y2 := (hc _ _ hP1).trans cP; have y3 := (hc _ _ hpb).trans cL; have y4 := (hc _ _ hV1).trans cV0; have y5 := (hc _ _ hV1).trans cV1
            refine ⟨by simp [Region.wanted, yielded, putsL, Act.put, f12, f15, f16], ?_⟩
            simp only [putsL]
            change quietTo _ _ _ _ (Sem.run _ (execOp (Act.eval (Act.put (Act.put (Act.put (Act.put (Act.put (Act.put (Act.put (Act.put (Act.put (Act.put (Act.put (Act.put (Act.put (Act.put (Act.put (Act.put (Act.put _ (some 31) (sv 16)) (some 30) (sv 15)) (some 29) (sv 14)) (some 28) (sv 13)) (some 27) (sv 12)) (some 26) (sv 11)) (some 25) (sv 10)) (some 24) (sv 9)) (some 23) (sv 8)) (some 22) (sv 7)) (some 21) (sv 6)) (some 20) (sv 5)) (some 19) (sv 4)) (some 18) (sv 3)) (some 17) (sv 2)) (some 16) (sv 1)) (some 15) (sv 0))) _) _)
            try simp only [Act.put, List.setIfInBounds_toArray, List.set_cons_succ, List.set_cons_zero]
            simp [go_sem, quietTo, Ext.refl, ↓IntWalk.iteOmega, f12, f15, f16, h1, h2]
            all_goals try simp (disch := omega) only [IntWalk.i64_in]
            all_goals first
              | rfl
          refine fac_quiet 18 rfl rfl rfl (fun _ _ h _ => h) rfl rfl ?_
          apply Exists.intro
          refine ⟨fun sv w' hw' hfa => ?_, ?_⟩
          · obtain ⟨f0, f1, f2, f3, f4, f5, f6, f7, f8, f9, f10, f11, f12, f13, f14, f15, f16, f17, -⟩ := hfa
            replace f0 : sv 0 = _ := f0
            try dsimp only at f0
            replace f1 : sv 1 = _ := f1
            try dsimp only at f1
            replace f2 : sv 2 = _ := f2
            try dsimp only at f2
            replace f3 : sv 3 = _ := f3
            try dsimp only at f3
            replace f4 : sv 4 = _ := f4
            try dsimp only at f4
            replace f5 : sv 5 = _ := f5
            try dsimp only at f5
            replace f6 : sv 6 = _ := f6
            try dsimp only at f6
            replace f7 : sv 7 = _ := f7
            try dsimp only at f7
            replace f8 : sv 8 = _ := f8
            try dsimp only at f8
            replace f9 : sv 9 = _ := f9
            try dsimp only at f9
            replace f10 : sv 10 = _ := f10
            try dsimp only at f10
            replace f11 : sv 11 = _ := f11
            try dsimp only at f11
            replace f12 : sv 12 = _ := f12
            try dsimp only at f12
            replace f13 : sv 13 = _ := f13
            try dsimp only at f13
            replace f14 : sv 14 = _ := f14
            try dsimp only at f14
            replace f15 : sv 15 = _ := f15
            try dsimp only at f15
            replace f16 : sv 16 = _ := f16
            try dsimp only at f16
            replace f17 : sv 17 = _ := f17
            try dsimp only at f17
            have hk := (Ext.refl W1).drew.trans hw'; obtain ⟨hc, hff, hz9⟩ := hk.walk; obtain ⟨y0, -⟩ := (hA.ext hk).walk; obtain ⟨y1, -⟩ := (hR.ext hk).walk; have y2 := (hc _ _ hP1).trans cP; have y3 := (hc _ _ hpb).trans cL; have y4 := (hc _ _ hV1).trans cV0; have y5 := (hc _ _ hV1).trans cV1
            refine ⟨rfl, ?_⟩
            simp only [putsL]
            change quietTo _ _ _ _ (Sem.run _ (execOp (Act.eval (Act.put (Act.put (Act.put (Act.put (Act.put (Act.put (Act.put (Act.put (Act.put (Act.put (Act.put (Act.put (Act.put (Act.put (Act.put (Act.put (Act.put (Act.put _ (some 32) (sv 17)) (some 31) (sv 16)) (some 30) (sv 15)) (some 29) (sv 14)) (some 28) (sv 13)) (some 27) (sv 12)) (some 26) (sv 11)) (some 25) (sv 10)) (some 24) (sv 9)) (some 23) (sv 8)) (some 22) (sv 7)) (some 21) (sv 6)) (some 20) (sv 5)) (some 19) (sv 4)) (some 18) (sv 3)) (some 17) (sv 2)) (some 16) (sv 1)) (some 15) (sv 0))) _) _)
            try simp only [Act.put, List.setIfInBounds_toArray, List.set_cons_succ, List.set_cons_zero]
            simp [go_sem, quietTo, Ext.refl, ↓IntWalk.iteOmega, f12, f17]
            all_goals try simp (disch := omega) only [IntWalk.i64_in]
            all_goals first
              | rfl
          refine fac_quiet 19 rfl rfl rfl (fun _ _ h _ => h) rfl rfl ?_
          apply Exists.intro
          refine ⟨fun sv w' hw' hfa => ?_, ?_⟩
          · obtain ⟨f0, f1, f2, f3, f4, f5, f6, f7, f8, f9, f10, f11, f12, f13, f14, f15, f16, f17, f18, -⟩ := hfa
            replace f0 : sv 0 = _ := f0
            try dsimp only at f0
            replace f1 : sv 1 = _ := f1
            try dsimp only at f1
            replace f2 : sv 2 = _ := f2
            try dsimp only at f2
            replace f3 : sv 3 = _ := f3
            try dsimp only at f3
            replace f4 : sv 4 = _ := f4
            try dsimp only at f4
            replace f5 : sv 5 = _ := f5
            try dsimp only at f5
            replace f6 : sv 6 = _ := f6
            try dsimp only at f6
            replace f7 : sv 7 = _ := f7
            try dsimp only at f7
            replace f8 : sv 8 = _ := f8
            try dsimp only at f8
            replace f9 : sv 9 = _ := f9
            try dsimp only at f9
            replace f10 : sv 10 = _ := f10
            try dsimp only at f10
            replace f11 : sv 11 = _ := f11
            try dsimp only at f11
            replace f12 : sv 12 = _ := f12
            try dsimp only at f12
            replace f13 : sv 13 = _ := f13
            try dsimp only at f13
            replace f14 : sv 14 = _ := f14
            try dsimp only at f14
            replace f15 : sv 15 = _ := f15
            try dsimp only at f15
            replace f16 : sv 16 = _ := f16
            try dsimp only at f16
            replace f17 : sv 17 = _ := f17
            try dsimp only at f17
            replace f18 : sv 18 = _ := f18
            try dsimp only at f18
            have hk := (Ext.refl W1).drew.trans hw'; obtain ⟨hc, hff, hz9⟩ := hk.walk; obtain ⟨y0, -⟩ := (hA.ext hk).walk; obtain ⟨y1, -⟩ := (hR.ext hk).walk; have y2 := (hc _ _ hP1).trans cP; have y3 := (hc _ _ hpb).trans cL; have y4 := (hc _ _ hV1).trans cV0; have y5 := (hc _ _ hV1).trans cV1
            refine ⟨rfl, ?_⟩
            simp only [putsL]
            change quietTo _ _ _ _ (Sem.run _ (execOp (Act.eval (Act.put (Act.put (Act.put (Act.put (Act.put (Act.put (Act.put (Act.put (Act.put (Act.put (Act.put (Act.put (Act.put (Act.put (Act.put (Act.put (Act.put (Act.put (Act.put _ (some 33) (sv 18)) (some 32) (sv 17)) (some 31) (sv 16)) (some 30) (sv 15)) (some 29) (sv 14)) (some 28) (sv 13)) (some 27) (sv 12)) (some 26) (sv 11)) (some 25) (sv 10)) (some 24) (sv 9)) (some 23) (sv 8)) (some 22) (sv 7)) (some 21) (sv 6)) (some 20) (sv 5)) (some 19) (sv 4)) (some 18) (sv 3)) (some 17) (sv 2)) (some 16) (sv 1)) (some 15) (sv 0))) _) _)
            try simp only [Act.put, List.setIfInBounds_toArray, List.set_cons_succ, List.set_cons_zero]
            simp [go_sem, quietTo, Ext.refl, f18]
            all_goals try simp (disch := omega) only [IntWalk.i64_in]
            all_goals first
              | rfl
          refine fac_nil fun xb wrb herb hfrb hcrb holdb hapb => ?_
          obtain ⟨f0, f1, f2, f3, f4, f5, f6, f7, f8, f9, f10, f11, f12, f13, f14, f15, f16, f17, f18, f19, -⟩ := hfrb
          replace f0 : xb 0 = _ := f0
          try dsimp only at f0
          replace f1 : xb 1 = _ := f1
          try dsimp only at f1
          replace f2 : xb 2 = _ := f2
          try dsimp only at f2
          replace f3 : xb 3 = _ := f3
          try dsimp only at f3
          replace f4 : xb 4 = _ := f4
          try dsimp only at f4
          replace f5 : xb 5 = _ := f5
          try dsimp only at f5
          replace f6 : xb 6 = _ := f6
          try dsimp only at f6
          replace f7 : xb 7 = _ := f7
          try dsimp only at f7
          replace f8 : xb 8 = _ := f8
          try dsimp only at f8
          replace f9 : xb 9 = _ := f9
          try dsimp only at f9
          replace f10 : xb 10 = _ := f10
          try dsimp only at f10
          replace f11 : xb 11 = _ := f11
          try dsimp only at f11
          replace f12 : xb 12 = _ := f12
          try dsimp only at f12
          replace f13 : xb 13 = _ := f13
          try dsimp only at f13
          replace f14 : xb 14 = _ := f14
          try dsimp only at f14
          replace f15 : xb 15 = _ := f15
          try dsimp only at f15
          replace f16 : xb 16 = _ := f16
          try dsimp only at f16
          replace f17 : xb 17 = _ := f17
          try dsimp only at f17
          replace f18 : xb 18 = _ := f18
          try dsimp only at f18
          replace f19 : xb 19 = _ := f19
          try dsimp only at f19
          change wpList _ _ _ _ (Act.put (Act.put (Act.put (Act.put (Act.put (Act.put (Act.put (Act.put (Act.put (Act.put (Act.put (Act.put (Act.put (Act.put (Act.put (Act.put (Act.put (Act.put (Act.put (Act.put _ (some 15) (xb 0)) (some 16) (xb 1)) (some 17) (xb 2)) (some 18) (xb 3)) (some 19) (xb 4)) (some 20) (xb 5)) (some 21) (xb 6)) (some 22) (xb 7)) (some 23) (xb 8)) (some 24) (xb 9)) (some 25) (xb 10)) (some 26) (xb 11)) (some 27) (xb 12)) (some 28) (xb 13)) (some 29) (xb 14)) (some 30) (xb 15)) (some 31) (xb 16)) (some 32) (xb 17)) (some 33) (xb 18)) (some 5) (xb 19)) _
          simp only [putsL, Nat.reduceAdd, List.drop_succ_cons, List.drop_zero, List.drop_nil, Act.put, List.setIfInBounds_toArray, List.set_cons_succ, List.set_cons_zero]
          try simp only [f0, f1, f2, f3, f4, f5, f6, f7, f8, f9, f10, f11, f12, f13, f14, f15, f16, f17, f18, f19]
          clear f0 f1 f2 f3 f4 f5 f6 f7 f8 f9 f10 f11 f12 f13 f14 f15 f16 f17 f18 f19
          clear holdb hapb
          go_wp2
          go_ret
          exact ⟨by simp [h1, h2], hE1.trans ((Ext.refl _).drew.trans herb)⟩
        · go_upto_region 2 with (refine wpList_look rfl _ _ 77 true rfl (.map (some mb)) (.string y.to) _ rfl rfl l1 ?_)
          generalize (W.alloc (.cells #[.string y.fr, .string y.to, .int .i64 y.m] 37)).alloc (.cells #[.int .i64 r1, .int .i64 r2] 80) = W1 at *
          refine wp_region_facts [] [([], false, false), ([0], false, false), ([], false, false), ([], false, false), ([3], false, false), ([3, 4], false, false), ([2, 3, 4, 5], false, false), ([2, 3, 4, 5, 6], false, false), ([0, 1, 2, 3, 4, 5, 6, 7], false, false), ([0, 1, 2, 3, 4, 5, 6, 7, 8], false, false), ([0, 1, 2, 3, 4, 5, 6, 7, 8, 9], false, false), ([0, 1, 2, 3, 4, 5, 6, 7, 8, 9, 10], false, false), ([0, 1, 2, 3, 4, 5, 6, 7, 8, 9, 10, 11], false, false), ([0, 1, 2, 3, 4, 5, 6, 7, 8, 9, 10, 11, 12], false, false), ([0, 1, 2, 3, 4, 5, 6, 7, 8, 9, 10, 11, 12], false, false), ([0, 1, 2, 3, 4, 5, 6, 7, 8, 9, 10, 11, 12, 13, 14], false, false), ([0, 1, 2, 3, 4, 5, 6, 7, 8, 9, 10, 11, 12], false, false), ([0, 1, 2, 3, 4, 5, 6, 7, 8, 9, 10, 11, 12, 13, 14, 15, 16], false, false), ([0, 1, 2, 3, 4, 5, 6, 7, 8, 9, 10, 11, 12, 13, 14, 15, 16, 17], false, false), ([0, 1, 2, 3, 4, 5, 6, 7, 8, 9, 10, 11, 12, 13, 14, 15, 16, 17, 18], false, false)] (Ext) Ext (fun _ => True) (by kernel_rfl) (by kernel_rfl) Ext.refl (fun _ _ _ => Ext.trans) (fun _ _ h => h) (fun _ _ h => h.size) (fun _ _ h _ => h) trivial ?_
          dsimp only [List.length_cons, List.length_nil, List.drop_succ_cons, List.drop_zero, List.drop_nil]
          refine fac_quiet 0 rfl rfl rfl (fun _ _ h _ => h) rfl rfl ?_
          apply Exists.intro
          refine ⟨fun sv w' hw' hfa => ?_, ?_⟩
          · have hk := (Ext.refl W1).drew.trans hw'; obtain ⟨hc, hff, hz9⟩ := hk.walk; obtain ⟨y0, -⟩ := (hA.ext hk).walk; obtain ⟨y1, -⟩ := (hR.ext hk).walk; have y2 := (hc _ _ hP1).trans cP; have y3 := (hc _ _ hpb).trans cL; have y4 := (hc _ _ hV1).trans cV0; have y5 := (hc _ _ hV1).trans cV1
            refine ⟨rfl, ?_⟩
            simp only [putsL]
            change quietTo _ _ _ _ (Sem.run _ (execOp (Act.eval _) _) _)
            try simp only [Act.put, List.setIfInBounds_toArray, List.set_cons_succ, List.set_cons_zero]
            simp [go_sem, quietTo, Ext.refl]
            all_goals try simp (disch := omega) only [IntWalk.i64_in]
            all_goals first
              | rfl
          refine fac_quiet 1 rfl rfl rfl (fun _ _ h _ => h) rfl rfl ?_
          apply Exists.intro
          refine ⟨fun sv w' hw' hfa => ?_, ?_⟩
          · obtain ⟨f0, -⟩ := hfa
            replace f0 : sv 0 = _ := f0
            try dsimp only at f0
            have hk := (Ext.refl W1).drew.trans hw'; obtain ⟨hc, hff, hz9⟩ := hk.walk; obtain ⟨y0, -⟩ := (hA.ext hk).walk; obtain ⟨y1, -⟩ := (hR.ext hk).walk; have y2 := (hc _ _ hP1).trans cP; have y3 := (hc _ _ hpb).trans cL; have y4 := (hc _ _ hV1).trans cV0; have y5 := (hc _ _ hV1).trans cV1
            refine ⟨rfl, ?_⟩
            simp only [putsL]
            change quietTo _ _ _ _ (Sem.run _ (execOp (Act.eval (Act.put _ (some 15) (sv 0))) _) _)
            try simp only [Act.put, List.setIfInBounds_toArray, List.set_cons_succ, List.set_cons_zero]
            simp [go_sem, quietTo, Ext.refl, ↓IntWalk.iteOmega, f0, y0]
            all_goals try simp (disch := omega) only [IntWalk.i64_in]
            all_goals first
              | rfl
          refine fac_quiet 2 rfl rfl rfl (fun _ _ h _ => h) rfl rfl ?_
          apply Exists.intro
          refine ⟨fun sv w' hw' hfa => ?_, ?_⟩
          · have hk := (Ext.refl W1).drew.trans hw'; obtain ⟨hc, hff, hz9⟩ := hk.walk; obtain ⟨y0, -⟩ := (hA.ext hk).walk; obtain ⟨y1, -⟩ := (hR.ext hk).walk; have y2 := (hc _ _ hP1).trans cP; have y3 := (hc _ _ hpb).trans cL; have y4 := (hc _ _ hV1).trans cV0; have y5 := (hc _ _ hV1).trans cV1
            refine ⟨rfl, ?_⟩
            simp only [putsL]
            change quietTo _ _ _ _ (Sem.run _ (execOp (Act.eval _) _) _)
            try simp only [Act.put, List.setIfInBounds_toArray, List.set_cons_succ, List.set_cons_zero]
            simp [go_sem, quietTo, Ext.refl, ↓IntWalk.iteOmega, y2]
            all_goals try simp (disch := omega) only [IntWalk.i64_in]
            all_goals first
              | rfl
          refine fac_quiet 3 rfl rfl rfl (fun _ _ h _ => h) rfl rfl ?_
          apply Exists.intro
          refine ⟨fun sv w' hw' hfa => ?_, ?_⟩
          · have hk := (Ext.refl W1).drew.trans hw'; obtain ⟨hc, hff, hz9⟩ := hk.walk; obtain ⟨y0, -⟩ := (hA.ext hk).walk; obtain ⟨y1, -⟩ := (hR.ext hk).walk; have y2 := (hc _ _ hP1).trans cP; have y3 := (hc _ _ hpb).trans cL; have y4 := (hc _ _ hV1).trans cV0; have y5 := (hc _ _ hV1).trans cV1
            refine ⟨rfl, ?_⟩
            simp only [putsL]
            change quietTo _ _ _ _ (Sem.run _ (execOp (Act.eval _) _) _)
            try simp only [Act.put, List.setIfInBounds_toArray, List.set_cons_succ, List.set_cons_zero]
            simp [go_sem, quietTo, Ext.refl, ↓IntWalk.iteOmega, y2]
            all_goals try simp (disch := omega) only [IntWalk.i64_in]
            all_goals first
              | rfl
          refine fac_quiet 4 rfl rfl rfl (fun _ _ h _ => h) rfl rfl ?_
          apply Exists.intro
          refine ⟨fun sv w' hw' hfa => ?_, ?_⟩
          · obtain ⟨f3, -⟩ := hfa
            replace f3 : sv 3 = _ := f3
            try dsimp only at f3
            have hk := (Ext.refl W1).drew.trans hw'; obtain ⟨hc, hff, hz9⟩ := hk.walk; obtain ⟨y0, -⟩ := (hA.ext hk).walk; obtain ⟨y1, -⟩ := (hR.ext hk).walk; have y2 := (hc _ _ hP1).trans cP; have y3 := (hc _ _ hpb).trans cL; have y4 := (hc _ _ hV1).trans cV0; have y5 := (hc _ _ hV1).trans cV1
            refine ⟨rfl, ?_⟩
            simp only [putsL]
            change quietTo _ _ _ _ (Sem.run _ (execOp (Act.eval (Act.put _ (some 18) (sv 3))) _) _)
            try simp only [Act.put, List.setIfInBounds_toArray, List.set_cons_succ, List.set_cons_zero]
            simp [go_sem, quietTo, Ext.refl, ↓IntWalk.iteOmega, f3]
            all_goals try simp (disch := omega) only [IntWalk.i64_in]
            all_goals first
              | rfl
          refine fac_quiet 5 rfl rfl rfl (fun _ _ h _ => h) rfl rfl ?_
          apply Exists.intro
          refine ⟨fun sv w' hw' hfa => ?_, ?_⟩
          · obtain ⟨f3, f4, -⟩ := hfa
            replace f3 : sv 3 = _ := f3
            try dsimp only at f3
            replace f4 : sv 4 = _ := f4
            try dsimp only at f4
            have hk := (Ext.refl W1).drew.trans hw'; obtain ⟨hc, hff, hz9⟩ := hk.walk; obtain ⟨y0, -⟩ := (hA.ext hk).walk; obtain ⟨y1, -⟩ := (hR.ext hk).walk; have y2 := (hc _ _ hP1).trans cP; have y3 := (hc _ _ hpb).trans cL; have y4 := (hc _ _ hV1).trans cV0; have y5 := (hc _ _ hV1).trans cV1
            refine ⟨rfl, ?_⟩
            simp only [putsL]
            change quietTo _ _ _ _ (Sem.run _ (execOp (Act.eval (Act.put (Act.put _ (some 19) (sv 4)) (some 18) (sv 3))) _) _)
            try simp only [Act.put, List.setIfInBounds_toArray, List.set_cons_succ, List.set_cons_zero]
            simp [go_sem, quietTo, Ext.refl, ↓IntWalk.iteOmega, f4, hm1, hm3]
            all_goals try simp (disch := omega) only [IntWalk.i64_in]
            all_goals first
              | rfl
          refine fac_quiet 6 rfl rfl rfl (fun _ _ h _ => h) rfl rfl ?_
          apply Exists.intro
          refine ⟨fun sv w' hw' hfa => ?_, ?_⟩
          · obtain ⟨f2, f3, f4, f5, -⟩ := hfa
            replace f2 : sv 2 = _ := f2
            try dsimp only at f2
            replace f3 : sv 3 = _ := f3
            try dsimp only at f3
            replace f4 : sv 4 = _ := f4
            try dsimp only at f4
            replace f5 : sv 5 = _ := f5
            try dsimp only at f5
            have hk := (Ext.refl W1).drew.trans hw'; obtain ⟨hc, hff, hz9⟩ := hk.walk; obtain ⟨y0, -⟩ := (hA.ext hk).walk; obtain ⟨y1, -⟩ := (hR.ext hk).walk; have y2 := (hc _ _ hP1).trans cP; have y3 := (hc _ _ hpb).trans cL; have y4 := (hc _ _ hV1).trans cV0; have y5 := (hc _ _ hV1).trans cV1
            refine ⟨rfl, ?_⟩
            simp only [putsL]
            change quietTo _ _ _ _ (Sem.run _ (execOp (Act.eval (Act.put (Act.put (Act.put (Act.put _ (some 20) (sv 5)) (some 19) (sv 4)) (some 18) (sv 3)) (some 17) (sv 2))) _) _)
            try simp only [Act.put, List.setIfInBounds_toArray, List.set_cons_succ, List.set_cons_zero]
            simp [go_sem, quietTo, Ext.refl, ↓IntWalk.iteOmega, f2, f5, y2, hm1, hm2, hm3]
            all_goals try simp (disch := omega) only [IntWalk.i64_in]
            all_goals first
              | rfl
          refine fac_quiet 7 rfl rfl rfl (fun _ _ h _ => h) rfl rfl ?_
          apply Exists.intro
          refine ⟨fun sv w' hw' hfa => ?_, ?_⟩
          · obtain ⟨f2, f3, f4, f5, f6, -⟩ := hfa
            replace f2 : sv 2 = _ := f2
            try dsimp only at f2
            replace f3 : sv 3 = _ := f3
            try dsimp only at f3
            replace f4 : sv 4 = _ := f4
            try dsimp only at f4
            replace f5 : sv 5 = _ := f5
            try dsimp only at f5
            replace f6 : sv 6 = _ := f6
            try dsimp only at f6
            have hk := (Ext.refl W1).drew.trans hw'; obtain ⟨hc, hff, hz9⟩ := hk.walk; obtain ⟨y0, -⟩ := (hA.ext hk).walk; obtain ⟨y1, -⟩ := (hR.ext hk).walk; have y2 := (hc _ _ hP1).trans cP; have y3 := (hc _ _ hpb).trans cL; have y4 := (hc _ _ hV1).trans cV0; have y5 := (hc _ _ hV1).trans cV1
            refine ⟨rfl, ?_⟩
            simp only [putsL]
            change quietTo _ _ _ _ (Sem.run _ (execOp (Act.eval (Act.put (Act.put (Act.put (Act.put (Act.put _ (some 21) (sv 6)) (some 20) (sv 5)) (some 19) (sv 4)) (some 18) (sv 3)) (some 17) (sv 2))) _) _)
            try simp only [Act.put, List.setIfInBounds_toArray, List.set_cons_succ, List.set_cons_zero]
            simp [go_sem, quietTo, Ext.refl, ↓IntWalk.iteOmega, f6, y3, hm1]
            all_goals try simp (disch := omega) only [IntWalk.i64_in]
            all_goals first
              | rfl
          refine fac_quiet 8 rfl rfl rfl (fun _ _ h _ => h) rfl rfl ?_
          apply Exists.intro
          refine ⟨fun sv w' hw' hfa => ?_, ?_⟩
          · obtain ⟨f0, f1, f2, f3, f4, f5, f6, f7, -⟩ := hfa
            replace f0 : sv 0 = _ := f0
            try dsimp only at f0
            replace f1 : sv 1 = _ := f1
            try dsimp only at f1
            replace f2 : sv 2 = _ := f2
            try dsimp only at f2
            replace f3 : sv 3 = _ := f3
            try dsimp only at f3
            replace f4 : sv 4 = _ := f4
            try dsimp only at f4
            replace f5 : sv 5 = _ := f5
            try dsimp only at f5
            replace f6 : sv 6 = _ := f6
            try dsimp only at f6
            replace f7 : sv 7 = _ := f7
            try dsimp only at f7
            have hk := (Ext.refl W1).drew.trans hw'; obtain ⟨hc, hff, hz9⟩ := hk.walk; obtain ⟨y0, -⟩ := (hA.ext hk).walk; obtain ⟨y1, -⟩ := (hR.ext hk).walk; have y2 := (hc _ _ hP1).trans cP; have y3 := (hc _ _ hpb).trans cL; have y4 := (hc _ _ hV1).trans cV0; have y5 := (hc _ _ hV1).trans cV1
            refine ⟨rfl, ?_⟩
            simp only [putsL]
            change quietTo _ _ _ _ (Sem.run _ (execOp (Act.eval (Act.put (Act.put (Act.put (Act.put (Act.put (Act.put (Act.put (Act.put _ (some 22) (sv 7)) (some 21) (sv 6)) (some 20) (sv 5)) (some 19) (sv 4)) (some 18) (sv 3)) (some 17) (sv 2)) (some 16) (sv 1)) (some 15) (sv 0))) _) _)
            try simp only [Act.put, List.setIfInBounds_toArray, List.set_cons_succ, List.set_cons_zero]
            simp [go_sem, quietTo, Ext.refl, ↓IntWalk.iteOmega, f1, f7, haa]
            all_goals try simp (disch := omega) only [IntWalk.i64_in]
            all_goals first
              | rfl
          refine fac_quiet 9 rfl rfl rfl (fun _ _ h _ => h) rfl rfl ?_
          apply Exists.intro
          refine ⟨fun sv w' hw' hfa => ?_, ?_⟩
          · obtain ⟨f0, f1, f2, f3, f4, f5, f6, f7, f8, -⟩ := hfa
            replace f0 : sv 0 = _ := f0
            try dsimp only at f0
            replace f1 : sv 1 = _ := f1
            try dsimp only at f1
            replace f2 : sv 2 = _ := f2
            try dsimp only at f2
            replace f3 : sv 3 = _ := f3
            try dsimp only at f3
            replace f4 : sv 4 = _ := f4
            try dsimp only at f4
            replace f5 : sv 5 = _ := f5
            try dsimp only at f5
            replace f6 : sv 6 = _ := f6
            try dsimp only at f6
            replace f7 : sv 7 = _ := f7
            try dsimp only at f7
            replace f8 : sv 8 = _ := f8
            try dsimp only at f8
            have hk := (Ext.refl W1).drew.trans hw'; obtain ⟨hc, hff, hz9⟩ := hk.walk; obtain ⟨y0, -⟩ := (hA.ext hk).walk; obtain ⟨y1, -⟩ := (hR.ext hk).walk; have y2 := (hc _ _ hP1).trans cP; have y3 := (hc _ _ hpb).trans cL; have y4 := (hc _ _ hV1).trans cV0; have y5 := (hc _ _ hV1).trans cV1
            refine ⟨rfl, ?_⟩
            simp only [putsL]
            change quietTo _ _ _ _ (Sem.run _ (execOp (Act.eval (Act.put (Act.put (Act.put (Act.put (Act.put (Act.put (Act.put (Act.put (Act.put _ (some 23) (sv 8)) (some 22) (sv 7)) (some 21) (sv 6)) (some 20) (sv 5)) (some 19) (sv 4)) (some 18) (sv 3)) (some 17) (sv 2)) (some 16) (sv 1)) (some 15) (sv 0))) _) _)
            try simp only [Act.put, List.setIfInBounds_toArray, List.set_cons_succ, List.set_cons_zero]
            simp [go_sem, quietTo, Ext.refl, f8]
            all_goals try simp (disch := omega) only [IntWalk.i64_in]
            all_goals first
              | rfl
          refine fac_quiet 10 rfl rfl rfl (fun _ _ h _ => h) rfl rfl ?_
          apply Exists.intro
          refine ⟨fun sv w' hw' hfa => ?_, ?_⟩
          · obtain ⟨f0, f1, f2, f3, f4, f5, f6, f7, f8, f9, -⟩ := hfa
            replace f0 : sv 0 = _ := f0
            try dsimp only at f0
            replace f1 : sv 1 = _ := f1
            try dsimp only at f1
            replace f2 : sv 2 = _ := f2
            try dsimp only at f2
            replace f3 : sv 3 = _ := f3
            try dsimp only at f3
            replace f4 : sv 4 = _ := f4
            try dsimp only at f4
            replace f5 : sv 5 = _ := f5
            try dsimp only at f5
            replace f6 : sv 6 = _ := f6
            try dsimp only at f6
            replace f7 : sv 7 = _ := f7
            try dsimp only at f7
            replace f8 : sv 8 = _ := f8
            try dsimp only at f8
            replace f9 : sv 9 = _ := f9
            try dsimp only at f9
            have hk := (Ext.refl W1).drew.trans hw'; obtain ⟨hc, hff, hz9⟩ := hk.walk; obtain ⟨y0, -⟩ := (hA.ext hk).walk; obtain ⟨y1, -⟩ := (hR.ext hk).walk; have y2 := (hc _ _ hP1).trans cP; have y3 := (hc _ _ hpb).trans cL; have y4 := (hc _ _ hV1).trans cV0; have y5 := (hc _ _ hV1).trans cV1
            refine ⟨by simp [Region.wanted, yielded, putsL, Act.put, f9], ?_⟩
            simp only [putsL]
            change quietTo _ _ _ _ (Sem.run _ (execOp (Act.eval (Act.put (Act.put (Act.put (Act.put (Act.put (Act.put (Act.put (Act.put (Act.put (Act.put _ (some 24) (sv 9)) (some 23) (sv 8)) (some 22) (sv 7)) (some 21) (sv 6)) (some 20) (sv 5)) (some 19) (sv 4)) (some 18) (sv 3)) (some 17) (sv 2)) (some 16) (sv 1)) (some 15) (sv 0))) _) _)
            try simp only [Act.put, List.setIfInBounds_toArray, List.set_cons_succ, List.set_cons_zero]
            simp [go_sem, quietTo, Ext.refl, f9]
            all_goals try simp (disch := omega) only [IntWalk.i64_in]
            all_goals first
              | rfl
          refine fac_quiet 11 rfl rfl rfl (fun _ _ h _ => h) rfl rfl ?_
          apply Exists.intro
          refine ⟨fun sv w' hw' hfa => ?_, ?_⟩
          · obtain ⟨f0, f1, f2, f3, f4, f5, f6, f7, f8, f9, f10, -⟩ := hfa
            replace f0 : sv 0 = _ := f0
            try dsimp only at f0
            replace f1 : sv 1 = _ := f1
            try dsimp only at f1
            replace f2 : sv 2 = _ := f2
            try dsimp only at f2
            replace f3 : sv 3 = _ := f3
            try dsimp only at f3
            replace f4 : sv 4 = _ := f4
            try dsimp only at f4
            replace f5 : sv 5 = _ := f5
            try dsimp only at f5
            replace f6 : sv 6 = _ := f6
            try dsimp only at f6
            replace f7 : sv 7 = _ := f7
            try dsimp only at f7
            replace f8 : sv 8 = _ := f8
            try dsimp only at f8
            replace f9 : sv 9 = _ := f9
            try dsimp only at f9
            replace f10 : sv 10 = _ := f10
            try dsimp only at f10
            have hk := (Ext.refl W1).drew.trans hw'; obtain ⟨hc, hff, hz9⟩ := hk.walk; obtain ⟨y0, -⟩ := (hA.ext hk).walk; obtain ⟨y1, -⟩ := (hR.ext hk).walk; have y2 := (hc _ _ hP1).trans cP; have y3 := (hc _ _ hpb).trans cL; have y4 := (hc _ _ hV1).trans cV0; have y5 := (hc _ _ hV1).trans cV1
            refine ⟨rfl, ?_⟩
            simp only [putsL]
            change quietTo _ _ _ _ (Sem.run _ (execOp (Act.eval (Act.put (Act.put (Act.put (Act.put (Act.put (Act.put (Act.put (Act.put (Act.put (Act.put (Act.put _ (some 25) (sv 10)) (some 24) (sv 9)) (some 23) (sv 8)) (some 22) (sv 7)) (some 21) (sv 6)) (some 20) (sv 5)) (some 19) (sv 4)) (some 18) (sv 3)) (some 17) (sv 2)) (some 16) (sv 1)) (some 15) (sv 0))) _) _)
            try simp only [Act.put, List.setIfInBounds_toArray, List.set_cons_succ, List.set_cons_zero]
            simp [go_sem, quietTo, Ext.refl, ↓IntWalk.iteOmega, f9, f10]
            all_goals try simp (disch := omega) only [IntWalk.i64_in]
            all_goals first
              | rfl
          refine fac_quiet 12 rfl rfl rfl (fun _ _ h _ => h) rfl rfl ?_
          apply Exists.intro
          refine ⟨fun sv w' hw' hfa => ?_, ?_⟩
          · obtain ⟨f0, f1, f2, f3, f4, f5, f6, f7, f8, f9, f10, f11, -⟩ := hfa
            replace f0 : sv 0 = _ := f0
            try dsimp only at f0
            replace f1 : sv 1 = _ := f1
            try dsimp only at f1
            replace f2 : sv 2 = _ := f2
            try dsimp only at f2
            replace f3 : sv 3 = _ := f3
            try dsimp only at f3
            replace f4 : sv 4 = _ := f4
            try dsimp only at f4
            replace f5 : sv 5 = _ := f5
            try dsimp only at f5
            replace f6 : sv 6 = _ := f6
            try dsimp only at f6
            replace f7 : sv 7 = _ := f7
            try dsimp only at f7
            replace f8 : sv 8 = _ := f8
            try dsimp only at f8
            replace f9 : sv 9 = _ := f9
            try dsimp only at f9
            replace f10 : sv 10 = _ := f10
            try dsimp only at f10
            replace f11 : sv 11 = _ := f11
            try dsimp only at f11
            have hk := (Ext.refl W1).drew.trans hw'; obtain ⟨hc, hff, hz9⟩ := hk.walk; obtain ⟨y0, -⟩ := (hA.ext hk).walk; obtain ⟨y1, -⟩ := (hR.ext hk).walk; have y2 := (hc _ _ hP1).trans cP; have y3 := (hc _ _ hpb).trans cL; have y4 := (hc _ _ hV1).trans cV0; have y5 := (hc _ _ hV1).trans cV1
            refine ⟨rfl, ?_⟩
            simp only [putsL]
            change quietTo _ _ _ _ (Sem.run _ (execOp (Act.eval (Act.put (Act.put (Act.put (Act.put (Act.put (Act.put (Act.put (Act.put (Act.put (Act.put (Act.put (Act.put _ (some 26) (sv 11)) (some 25) (sv 10)) (some 24) (sv 9)) (some 23) (sv 8)) (some 22) (sv 7)) (some 21) (sv 6)) (some 20) (sv 5)) (some 19) (sv 4)) (some 18) (sv 3)) (some 17) (sv 2)) (some 16) (sv 1)) (some 15) (sv 0))) _) _)
            try simp only [Act.put, List.setIfInBounds_toArray, List.set_cons_succ, List.set_cons_zero]
            simp [go_sem, quietTo, Ext.refl, f11]
            all_goals try simp (disch := omega) only [IntWalk.i64_in]
            all_goals first
              | rfl
          refine fac_quiet 13 rfl rfl rfl (fun _ _ h _ => h) rfl rfl ?_
          apply Exists.intro
          refine ⟨fun sv w' hw' hfa => ?_, ?_⟩
          · obtain ⟨f0, f1, f2, f3, f4, f5, f6, f7, f8, f9, f10, f11, f12, -⟩ := hfa
            replace f0 : sv 0 = _ := f0
            try dsimp only at f0
            replace f1 : sv 1 = _ := f1
            try dsimp only at f1
            replace f2 : sv 2 = _ := f2
            try dsimp only at f2
            replace f3 : sv 3 = _ := f3
            try dsimp only at f3
            replace f4 : sv 4 = _ := f4
            try dsimp only at f4
            replace f5 : sv 5 = _ := f5
            try dsimp only at f5
            replace f6 : sv 6 = _ := f6
            try dsimp only at f6
            replace f7 : sv 7 = _ := f7
            try dsimp only at f7
            replace f8 : sv 8 = _ := f8
            try dsimp only at f8
            replace f9 : sv 9 = _ := f9
            try dsimp only at f9
            replace f10 : sv 10 = _ := f10
            try dsimp only at f10
            replace f11 : sv 11 = _ := f11
            try dsimp only at f11
            replace f12 : sv 12 = _ := f12
            try dsimp only at f12
            have hk := (Ext.refl W1).drew.trans hw'; obtain ⟨hc, hff, hz9⟩ := hk.walk; obtain ⟨y0, -⟩ := (hA.ext hk).walk; obtain ⟨y1, -⟩ := (hR.ext hk).walk; have y2 := (hc _ _ hP1).trans cP; have y3 := (hc _ _ hpb).trans cL; have y4 := (hc _ _ hV1).trans cV0; have y5 := (hc _ _ hV1).trans cV1
            refine ⟨by simp [Region.wanted, yielded, putsL, Act.put, f12], ?_⟩
            simp only [putsL]
            change quietTo _ _ _ _ (Sem.run _ (execOp (Act.eval (Act.put (Act.put (Act.put (Act.put (Act.put (Act.put (Act.put (Act.put (Act.put (Act.put (Act.put (Act.put (Act.put _ (some 27) (sv 12)) (some 26) (sv 11)) (some 25) (sv 10)) (some 24) (sv 9)) (some 23) (sv 8)) (some 22) (sv 7)) (some 21) (sv 6)) (some 20) (sv 5)) (some 19) (sv 4)) (some 18) (sv 3)) (some 17) (sv 2)) (some 16) (sv 1)) (some 15) (sv 0))) _) _)
            try simp only [Act.put, List.setIfInBounds_toArray, List.set_cons_succ, List.set_cons_zero]
            simp [go_sem, quietTo, Ext.refl, ↓IntWalk.iteOmega, f12, y1]
            all_goals try simp (disch := omega) only [IntWalk.i64_in]
            all_goals first
              | rfl
          refine fac_quiet 14 rfl rfl rfl (fun _ _ h _ => h) rfl rfl ?_
          apply Exists.intro
          refine ⟨fun sv w' hw' hfa => ?_, ?_⟩
          · obtain ⟨f0, f1, f2, f3, f4, f5, f6, f7, f8, f9, f10, f11, f12, -⟩ := hfa
            replace f0 : sv 0 = _ := f0
            try dsimp only at f0
            replace f1 : sv 1 = _ := f1
            try dsimp only at f1
            replace f2 : sv 2 = _ := f2
            try dsimp only at f2
            replace f3 : sv 3 = _ := f3
            try dsimp only at f3
            replace f4 : sv 4 = _ := f4
            try dsimp only at f4
            replace f5 : sv 5 = _ := f5
            try dsimp only at f5
            replace f6 : sv 6 = _ := f6
            try dsimp only at f6
            replace f7 : sv 7 = _ := f7
            try dsimp only at f7
            replace f8 : sv 8 = _ := f8
            try dsimp only at f8
            replace f9 : sv 9 = _ := f9
            try dsimp only at f9
            replace f10 : sv 10 = _ := f10
            try dsimp only at f10
            replace f11 : sv 11 = _ := f11
            try dsimp only at f11
            replace f12 : sv 12 = _ := f12
            try dsimp only at f12
            have hk := (Ext.refl W1).drew.trans hw'; obtain ⟨hc, hff, hz9⟩ := hk.walk; obtain ⟨y0, -⟩ := (hA.ext hk).walk; obtain ⟨y1, -⟩ := (hR.ext hk).walk; have y2 := (hc _ _ hP1).trans cP; have y3 := (hc _ _ hpb).trans cL; have y4 := (hc _ _ hV1).trans cV0; have y5 := (hc _ _ hV1).trans cV1
            refine ⟨by simp [Region.wanted, yielded, putsL, Act.put, f12], ?_⟩
            simp only [putsL]
            change quietTo _ _ _ _ (Sem.run _ (execOp (Act.eval (Act.put (Act.put (Act.put (Act.put (Act.put (Act.put (Act.put (Act.put (Act.put (Act.put (Act.put (Act.put (Act.put _ (some 27) (sv 12)) (some 26) (sv 11)) (some 25) (sv 10)) (some 24) (sv 9)) (some 23) (sv 8)) (some 22) (sv 7)) (some 21) (sv 6)) (some 20) (sv 5)) (some 19) (sv 4)) (some 18) (sv 3)) (some 17) (sv 2)) (some 16) (sv 1)) (some 15) (sv 0))) _) _)
            try simp only [Act.put, List.setIfInBounds_toArray, List.set_cons_succ, List.set_cons_zero]
            simp [go_sem, quietTo, Ext.refl, ↓IntWalk.iteOmega, f12, y0]
            all_goals try simp (disch := omega) only [IntWalk.i64_in]
            all_goals first
              | rfl
          refine fac_quiet 15 rfl rfl rfl (fun _ _ h _ => h) rfl rfl ?_
          apply Exists.intro
          refine ⟨fun sv w' hw' hfa => ?_, ?_⟩
          · obtain ⟨f0, f1, f2, f3, f4, f5, f6, f7, f8, f9, f10, f11, f12, f13, f14, -⟩ := hfa
            replace f0 : sv 0 = _ := f0
            try dsimp only at f0
            replace f1 : sv 1 = _ := f1
            try dsimp only at f1
            replace f2 : sv 2 = _ := f2
            try dsimp only at f2
            replace f3 : sv 3 = _ := f3
            try dsimp only at f3
            replace f4 : sv 4 = _ := f4
            try dsimp only at f4
            replace f5 : sv 5 = _ := f5
            try dsimp only at f5
            replace f6 : sv 6 = _ := f6
            try dsimp only at f6
            replace f7 : sv 7 = _ := f7
            try dsimp only at f7
            replace f8 : sv 8 = _ := f8
            try dsimp only at f8
            replace f9 : sv 9 = _ := f9
            try dsimp only at f9
            replace f10 : sv 10 = _ := f10
            try dsimp only at f10
            replace f11 : sv 11 = _ := f11
            try dsimp only at f11
            replace f12 : sv 12 = _ := f12
            try dsimp only at f12
            replace f13 : sv 13 = _ := f13
            try dsimp only at f13
            replace f14 : sv 14 = _ := f14
            try dsimp only at f14
            have hk := (Ext.refl W1).drew.trans hw'; obtain ⟨hc, hff, hz9⟩ := hk.walk; obtain ⟨y0, -⟩ := (hA.ext hk).walk; obtain ⟨y1, -⟩ := (hR.ext hk).walk; have y2 := (hc _ _ hP1).trans cP; have y3 := (hc _ _ hpb).trans cL; have y4 := (hc _ _ hV1).trans cV0; have y5 := (hc _ _ hV1).trans cV1
            refine ⟨by simp [Region.wanted, yielded, putsL, Act.put, f12, f13, f14], ?_⟩
            simp only [putsL]
            change quietTo _ _ _ _ (Sem.run _ (execOp (Act.eval (Act.put (Act.put (Act.put (Act.put (Act.put (Act.put (Act.put (Act.put (Act.put (Act.put (Act.put (Act.put (Act.put (Act.put (Act.put _ (some 29) (sv 14)) (some 28) (sv 13)) (some 27) (sv 12)) (some 26) (sv 11)) (some 25) (sv 10)) (some 24) (sv 9)) (some 23) (sv 8)) (some 22) (sv 7)) (some 21) (sv 6)) (some 20) (sv 5)) (some 19) (sv 4)) (some 18) (sv 3)) (some 17) (sv 2)) (some 16) (sv 1)) (some 15) (sv 0))) _) _)
            try simp only [Act.put, List.setIfInBounds_toArray, List.set_cons_succ, List.set_cons_zero]
            simp [go_sem, quietTo, Ext.refl, ↓IntWalk.iteOmega, f12, f13, f14]
            all_goals try simp (disch := omega) only [IntWalk.i64_in]
            all_goals first
              | rfl
              | (exact hby.out _)
          refine fac_quiet 16 rfl rfl rfl (fun _ _ h _ => h) rfl rfl ?_
          apply Exists.intro
          refine ⟨fun sv w' hw' hfa => ?_, ?_⟩
          · obtain ⟨f0, f1, f2, f3, f4, f5, f6, f7, f8, f9, f10, f11, f12, -⟩ := hfa
            replace f0 : sv 0 = _ := f0
            try dsimp only at f0
            replace f1 : sv 1 = _ := f1
            try dsimp only at f1
            replace f2 : sv 2 = _ := f2
            try dsimp only at f2
            replace f3 : sv 3 = _ := f3
            try dsimp only at f3
            replace f4 : sv 4 = _ := f4
            try dsimp only at f4
            replace f5 : sv 5 = _ := f5
            try dsimp only at f5
            replace f6 : sv 6 = _ := f6
            try dsimp only at f6
            replace f7 : sv 7 = _ := f7
            try dsimp only at f7
            replace f8 : sv 8 = _ := f8
            try dsimp only at f8
            replace f9 : sv 9 = _ := f9
            try dsimp only at f9
            replace f10 : sv 10 = _ := f10
            try dsimp only at f10
            replace f11 : sv 11 = _ := f11
            try dsimp only at f11
            replace f12 : sv 12 = _ := f12
            try dsimp only at f12
            have hk := (Ext.refl W1).drew.trans hw'; obtain ⟨hc, hff, hz9⟩ := hk.walk; obtain ⟨y0, -⟩ := (hA.ext hk).walk; obtain ⟨y1, -⟩ := (hR.ext hk).walk; have y2 := (hc _ _ hP1).trans cP; have y3 := (hc _ _ hpb).trans cL; have y4 := (hc _ _ hV1).trans cV0; have y5 := (hc _ _ hV1).trans cV1
            refine ⟨by simp [Region.wanted, yielded, putsL, Act.put, f12], ?_⟩
            simp only [putsL]
            change quietTo _ _ _ _ (Sem.run _ (execOp (Act.eval (Act.put (Act.put (Act.put (Act.put (Act.put (Act.put (Act.put (Act.put (Act.put (Act.put (Act.put (Act.put (Act.put _ (some 27) (sv 12)) (some 26) (sv 11)) (some 25) (sv 10)) (some 24) (sv 9)) (some 23) (sv 8)) (some 22) (sv 7)) (some 21) (sv 6)) (some 20) (sv 5)) (some 19) (sv 4)) (some 18) (sv 3)) (some 17) (sv 2)) (some 16) (sv 1)) (some 15) (sv 0))) _) _)
            try simp only [Act.put, List.setIfInBounds_toArray, List.set_cons_succ, List.set_cons_zero]
            simp [go_sem, quietTo, Ext.refl, ↓IntWalk.iteOmega, f12, y4, y5]
            all_goals try simp (disch := omega) only [IntWalk.i64_in]
            all_goals first
              | rfl
          refine fac_quiet 17 rfl rfl rfl (fun _ _ h _ => h) rfl rfl ?_
          apply Exists.intro
          refine ⟨fun sv w' hw' hfa => ?_, ?_⟩
          · obtain ⟨f0, f1, f2, f3, f4, f5, f6, f7, f8, f9, f10, f11, f12, f13, f14, f15, f16, -⟩ := hfa
            replace f0 : sv 0 = _ := f0
            try dsimp only at f0
            replace f1 : sv 1 = _ := f1
            try dsimp only at f1
            replace f2 : sv 2 = _ := f2
            try dsimp only at f2
            replace f3 : sv 3 = _ := f3
            try dsimp only at f3
            replace f4 : sv 4 = _ := f4
            try dsimp only at f4
            replace f5 : sv 5 = _ := f5
            try dsimp only at f5
            replace f6 : sv 6 = _ := f6
            try dsimp only at f6
            replace f7 : sv 7 = _ := f7
            try dsimp only at f7
            replace f8 : sv 8 = _ := f8
            try dsimp only at f8
            replace f9 : sv 9 = _ := f9
            try dsimp only at f9
            replace f10 : sv 10 = _ := f10
            try dsimp only at f10
            replace f11 : sv 11 = _ := f11
            try dsimp only at f11
            replace f12 : sv 12 = _ := f12
            try dsimp only at f12
            replace f13 : sv 13 = _ := f13
            try dsimp only at f13
            replace f14 : sv 14 = _ := f14
            try dsimp only at f14
            replace f15 : sv 15 = _ := f15
            try dsimp only at f15
            replace f16 : sv 16 = _ := f16
            try dsimp only at f16
            have hk := (Ext.refl W1).drew.trans hw'; obtain ⟨hc, hff, hz9⟩ := hk.walk; obtain ⟨y0, -⟩ := (hA.ext hk).walk; obtain ⟨y1, -⟩ := (hR.ext hk).walk; have y2 := (hc _ _ hP1).trans cP; have y3 := (hc _ _ hpb).trans cL; have y4 := (hc _ _ hV1).trans cV0; have y5 := (hc _ _ hV1).trans cV1
            refine ⟨by simp [Region.wanted, yielded, putsL, Act.put, f12, f15, f16], ?_⟩
            simp only [putsL]
            change quietTo _ _ _ _ (Sem.run _ (execOp (Act.eval (Act.put (Act.put (Act.put (Act.put (Act.put (Act.put (Act.put (Act.put (Act.put (Act.put (Act.put (Act.put (Act.put (Act.put (Act.put (Act.put (Act.put _ (some 31) (sv 16)) (some 30) (sv 15)) (some 29) (sv 14)) (some 28) (sv 13)) (some 27) (sv 12)) (some 26) (sv 11)) (some 25) (sv 10)) (some 24) (sv 9)) (some 23) (sv 8)) (some 22) (sv 7)) (some 21) (sv 6)) (some 20) (sv 5)) (some 19) (sv 4)) (some 18) (sv 3)) (some 17) (sv 2)) (some 16) (sv 1)) (some 15) (sv 0))) _) _)
            try simp only [Act.put, List.setIfInBounds_toArray, List.set_cons_succ, List.set_cons_zero]
            simp [go_sem, quietTo, Ext.refl, ↓IntWalk.iteOmega, f12, f15, f16, h1, h2]
            all_goals try simp (disch := omega) only [IntWalk.i64_in]
            all_goals first
              | rfl
          refine fac_quiet 18 rfl rfl rfl (fun _ _ h _ => h) rfl rfl ?_
          apply Exists.intro
          refine ⟨fun sv w' hw' hfa => ?_, ?_⟩
          · obtain ⟨f0, f1, f2, f3, f4, f5, f6, f7, f8, f9, f10, f11, f12, f13, f14, f15, f16, f17, -⟩ := hfa
            replace f0 : sv 0 = _ := f0
            try dsimp only at f0
            replace f1 : sv 1 = _ := f1
            try dsimp only at f1
            replace f2 : sv 2 = _ := f2
            try dsimp only at f2
            replace f3 : sv 3 = _ := f3
            try dsimp only at f3
            replace f4 : sv 4 = _ := f4
            try dsimp only at f4
            replace f5 : sv 5 = _ := f5
            try dsimp only at f5
            replace f6 : sv 6 = _ := f6
            try dsimp only at f6
            replace f7 : sv 7 = _ := f7
            try dsimp only at f7
            replace f8 : sv 8 = _ := f8
            try dsimp only at f8
            replace f9 : sv 9 = _ := f9
            try dsimp only at f9
            replace f10 : sv 10 = _ := f10
            try dsimp only at f10
            replace f11 : sv 11 = _ := f11
            try dsimp only at f11
            replace f12 : sv 12 = _ := f12
            try dsimp only at f12
            replace f13 : sv 13 = _ := f13
            try dsimp only at f13
            replace f14 : sv 14 = _ := f14
            try dsimp only at f14
            replace f15 : sv 15 = _ := f15
            try dsimp only at f15
            replace f16 : sv 16 = _ := f16
            try dsimp only at f16
            replace f17 : sv 17 = _ := f17
            try dsimp only at f17
            have hk := (Ext.refl W1).drew.trans hw'; obtain ⟨hc, hff, hz9⟩ := hk.walk; obtain ⟨y0, -⟩ := (hA.ext hk).walk; obtain ⟨y1, -⟩ := (hR.ext hk).walk; have y2 := (hc _ _ hP1).trans cP; have y3 := (hc _ _ hpb).trans cL; have y4 := (hc _ _ hV1).trans cV0; have y5 := (hc _ _ hV1).trans cV1
            refine ⟨rfl, ?_⟩
            simp only [putsL]
            change quietTo _ _ _ _ (Sem.run _ (execOp (Act.eval (Act.put (Act.put (Act.put (Act.put (Act.put (Act.put (Act.put (Act.put (Act.put (Act.put (Act.put (Act.put (Act.put (Act.put (Act.put (Act.put (Act.put (Act.put _ (some 32) (sv 17)) (some 31) (sv 16)) (some 30) (sv 15)) (some 29) (sv 14)) (some 28) (sv 13)) (some 27) (sv 12)) (some 26) (sv 11)) (some 25) (sv 10)) (some 24) (sv 9)) (some 23) (sv 8)) (some 22) (sv 7)) (some 21) (sv 6)) (some 20) (sv 5)) (some 19) (sv 4)) (some 18) (sv 3)) (some 17) (sv 2)) (some 16) (sv 1)) (some 15) (sv 0))) _) _)
            try simp only [Act.put, List.setIfInBounds_toArray, List.set_cons_succ, List.set_cons_zero]
            simp [go_sem, quietTo, Ext.refl, ↓IntWalk.iteOmega, f12, f17]
            all_goals try simp (disch := omega) only [IntWalk.i64_in]
            all_goals first
              | rfl
          refine fac_quiet 19 rfl rfl rfl (fun _ _ h _ => h) rfl rfl ?_
          apply Exists.intro
          refine ⟨fun sv w' hw' hfa => ?_, ?_⟩
          · obtain ⟨f0, f1, f2, f3, f4, f5, f6, f7, f8, f9, f10, f11, f12, f13, f14, f15, f16, f17, f18, -⟩ := hfa
            replace f0 : sv 0 = _ := f0
            try dsimp only at f0
            replace f1 : sv 1 = _ := f1
            try dsimp only at f1
            replace f2 : sv 2 = _ := f2
            try dsimp only at f2
            replace f3 : sv 3 = _ := f3
            try dsimp only at f3
            replace f4 : sv 4 = _ := f4
            try dsimp only at f4
            replace f5 : sv 5 = _ := f5
            try dsimp only at f5
            replace f6 : sv 6 = _ := f6
            try dsimp only at f6
            replace f7 : sv 7 = _ := f7
            try dsimp only at f7
            replace f8 : sv 8 = _ := f8
            try dsimp only at f8
            replace f9 : sv 9 = _ := f9
            try dsimp only at f9
            replace f10 : sv 10 = _ := f10
            try dsimp only at f10
            replace f11 : sv 11 = _ := f11
            try dsimp only at f11
            replace f12 : sv 12 = _ := f12
            try dsimp only at f12
            replace f13 : sv 13 = _ := f13
            try dsimp only at f13
            replace f14 : sv 14 = _ := f14
            try dsimp only at f14
            replace f15 : sv 15 = _ := f15
            try dsimp only at f15
            replace f16 : sv 16 = _ := f16
            try dsimp only at f16
            replace f17 : sv 17 = _ := f17
            try dsimp only at f17
            replace f18 : sv 18 = _ := f18
            try dsimp only at f18
            have hk := (Ext.refl W1).drew.trans hw'; obtain ⟨hc, hff, hz9⟩ := hk.walk; obtain ⟨y0, -⟩ := (hA.ext hk).walk; obtain ⟨y1, -⟩ := (hR.ext hk).walk; have y2 := (hc _ _ hP1).trans cP; have y3 := (hc _ _ hpb).trans cL; have y4 := (hc _ _ hV1).trans cV0; have y5 := (hc _ _ hV1).trans cV1
            refine ⟨rfl, ?_⟩
            simp only [putsL]
            change quietTo _ _ _ _ (Sem.run _ (execOp (Act.eval (Act.put (Act.put (Act.put (Act.put (Act.put (Act.put (Act.put (Act.put (Act.put (Act.put (Act.put (Act.put (Act.put (Act.put (Act.put (Act.put (Act.put (Act.put (Act.put _ (some 33) (sv 18)) (some 32) (sv 17)) (some 31) (sv 16)) (some 30) (sv 15)) (some 29) (sv 14)) (some 28) (sv 13)) (some 27) (sv 12)) (some 26) (sv 11)) (some 25) (sv 10)) (some 24) (sv 9)) (some 23) (sv 8)) (some 22) (sv 7)) (some 21) (sv 6)) (some 20) (sv 5)) (some 19) (sv 4)) (some 18) (sv 3)) (some 17) (sv 2)) (some 16) (sv 1)) (some 15) (sv 0))) _) _)
            try simp only [Act.put, List.setIfInBounds_toArray, List.set_cons_succ, List.set_cons_zero]
            simp [go_sem, quietTo, Ext.refl, f18]
            all_goals try simp (disch := omega) only [IntWalk.i64_in]
            all_goals first
              | rfl
          refine fac_nil fun xb wrb herb hfrb hcrb holdb hapb => ?_
          obtain ⟨f0, f1, f2, f3, f4, f5, f6, f7, f8, f9, f10, f11, f12, f13, f14, f15, f16, f17, f18, f19, -⟩ := hfrb
          replace f0 : xb 0 = _ := f0
          try dsimp only at f0
          replace f1 : xb 1 = _ := f1
          try dsimp only at f1
          replace f2 : xb 2 = _ := f2
          try dsimp only at f2
          replace f3 : xb 3 = _ := f3
          try dsimp only at f3
          replace f4 : xb 4 = _ := f4
          try dsimp only at f4
          replace f5 : xb 5 = _ := f5
          try dsimp only at f5
          replace f6 : xb 6 = _ := f6
          try dsimp only at f6
          replace f7 : xb 7 = _ := f7
          try dsimp only at f7
          replace f8 : xb 8 = _ := f8
          try dsimp only at f8
          replace f9 : xb 9 = _ := f9
          try dsimp only at f9
          replace f10 : xb 10 = _ := f10
          try dsimp only at f10
          replace f11 : xb 11 = _ := f11
          try dsimp only at f11
          replace f12 : xb 12 = _ := f12
          try dsimp only at f12
          replace f13 : xb 13 = _ := f13
          try dsimp only at f13
          replace f14 : xb 14 = _ := f14
          try dsimp only at f14
          replace f15 : xb 15 = _ := f15
          try dsimp only at f15
          replace f16 : xb 16 = _ := f16
          try dsimp only at f16
          replace f17 : xb 17 = _ := f17
          try dsimp only at f17
          replace f18 : xb 18 = _ := f18
          try dsimp only at f18
          replace f19 : xb 19 = _ := f19
          try dsimp only at f19
          change wpList _ _ _ _ (Act.put (Act.put (Act.put (Act.put (Act.put (Act.put (Act.put (Act.put (Act.put (Act.put (Act.put (Act.put (Act.put (Act.put (Act.put (Act.put (Act.put (Act.put (Act.put (Act.put _ (some 15) (xb 0)) (some 16) (xb 1)) (some 17) (xb 2)) (some 18) (xb 3)) (some 19) (xb 4)) (some 20) (xb 5)) (some 21) (xb 6)) (some 22) (xb 7)) (some 23) (xb 8)) (some 24) (xb 9)) (some 25) (xb 10)) (some 26) (xb 11)) (some 27) (xb 12)) (some 28) (xb 13)) (some 29) (xb 14)) (some 30) (xb 15)) (some 31) (xb 16)) (some 32) (xb 17)) (some 33) (xb 18)) (some 5) (xb 19)) _
          simp only [putsL, Nat.reduceAdd, List.drop_succ_cons, List.drop_zero, List.drop_nil, Act.put, List.setIfInBounds_toArray, List.set_cons_succ, List.set_cons_zero]
          try simp only [f0, f1, f2, f3, f4, f5, f6, f7, f8, f9, f10, f11, f12, f13, f14, f15, f16, f17, f18, f19]
          clear f0 f1 f2 f3 f4 f5 f6 f7 f8 f9 f10 f11 f12 f13 f14 f15 f16 f17 f18 f19
          clear holdb hapb
          go_wp2
          go_ret
          exact ⟨by simp [h1, h2], hE1.trans ((Ext.refl _).drew.trans herb)⟩
      · go_upto_region 2 with (refine wpList_look rfl _ _ 77 true rfl (.map (some mb)) (.string y.to) _ rfl rfl l1 ?_)
        generalize (W.alloc (.cells #[.string y.fr, .string y.to, .int .i64 y.m] 37)).alloc (.cells #[.int .i64 r1, .int .i64 r2] 80) = W1 at *
        refine wp_region_facts [] [([], false, false), ([0], false, false), ([], false, false), ([], false, false), ([3], false, false), ([3, 4], false, false), ([2, 3, 4, 5], false, false), ([2, 3, 4, 5, 6], false, false), ([0, 1, 2, 3, 4, 5, 6, 7], false, false), ([0, 1, 2, 3, 4, 5, 6, 7, 8], false, false), ([0, 1, 2, 3, 4, 5, 6, 7, 8, 9], false, false), ([0, 1, 2, 3, 4, 5, 6, 7, 8, 9, 10], false, false), ([0, 1, 2, 3, 4, 5, 6, 7, 8, 9, 10, 11], false, false), ([0, 1, 2, 3, 4, 5, 6, 7, 8, 9, 10, 11, 12], false, false), ([0, 1, 2, 3, 4, 5, 6, 7, 8, 9, 10, 11, 12], false, false), ([0, 1, 2, 3, 4, 5, 6, 7, 8, 9, 10, 11, 12, 13, 14], false, false), ([0, 1, 2, 3, 4, 5, 6, 7, 8, 9, 10, 11, 12], false, false), ([0, 1, 2, 3, 4, 5, 6, 7, 8, 9, 10, 11, 12, 13, 14, 15, 16], false, false), ([0, 1, 2, 3, 4, 5, 6, 7, 8, 9, 10, 11, 12, 13, 14, 15, 16, 17], false, false), ([0, 1, 2, 3, 4, 5, 6, 7, 8, 9, 10, 11, 12, 13, 14, 15, 16, 17, 18], false, false)] (Ext) Ext (fun _ => True) (by kernel_rfl) (by kernel_rfl) Ext.refl (fun _ _ _ => Ext.trans) (fun _ _ h => h) (fun _ _ h => h.size) (fun _ _ h _ => h) trivial ?_
        dsimp only [List.length_cons, List.length_nil, List.drop_succ_cons, List.drop_zero, List.drop_nil]
        refine fac_quiet 0 rfl rfl rfl (fun _ _ h _ => h) rfl rfl ?_
        apply Exists.intro
        refine ⟨fun sv w' hw' hfa => ?_, ?_⟩
        · have hk := (Ext.refl W1).drew.trans hw'; obtain ⟨hc, hff, hz9⟩ := hk.walk; obtain ⟨y0, -⟩ := (hA.ext hk).walk; obtain ⟨y1, -⟩ := (hR.ext hk).walk; have y2 := (hc _ _ hP1).trans cP; have y3 := (hc _ _ hpb).trans cL; have y4 := (hc _ _ hV1).trans cV0; have y5 := (hc _ _ hV1).trans cV1
          refine ⟨rfl, ?_⟩
          simp only [putsL]
          change quietTo _ _ _ _ (Sem.run _ (execOp (Act.eval _) _) _)
          try simp only [Act.put, List.setIfInBounds_toArray, List.set_cons_succ, List.set_cons_zero]
          simp [go_sem, quietTo, Ext.refl]
          all_goals try simp (disch := omega) only [IntWalk.i64_in]
          all_goals first
            | rfl
        refine fac_quiet 1 rfl rfl rfl (fun _ _ h _ => h) rfl rfl ?_
        apply Exists.intro
        refine ⟨fun sv w' hw' hfa => ?_, ?_⟩
        · obtain ⟨f0, -⟩ := hfa
          replace f0 : sv 0 = _ := f0
          try dsimp only at f0
          have hk := (Ext.refl W1).drew.trans hw'; obtain ⟨hc, hff, hz9⟩ := hk.walk; obtain ⟨y0, -⟩ := (hA.ext hk).walk; obtain ⟨y1, -⟩ := (hR.ext hk).walk; have y2 := (hc _ _ hP1).trans cP; have y3 := (hc _ _ hpb).trans cL; have y4 := (hc _ _ hV1).trans cV0; have y5 := (hc _ _ hV1).trans cV1
          refine ⟨rfl, ?_⟩
          simp only [putsL]
          change quietTo _ _ _ _ (Sem.run _ (execOp (Act.eval (Act.put _ (some 15) (sv 0))) _) _)
          try simp only [Act.put, List.setIfInBounds_toArray, List.set_cons_succ, List.set_cons_zero]
          simp [go_sem, quietTo, Ext.refl, ↓IntWalk.iteOmega, f0, y0]
          all_goals try simp (disch := omega) only [IntWalk.i64_in]
          all_goals first
            | rfl
        refine fac_quiet 2 rfl rfl rfl (fun _ _ h _ => h) rfl rfl ?_
        apply Exists.intro
        refine ⟨fun sv w' hw' hfa => ?_, ?_⟩
        · have hk := (Ext.refl W1).drew.trans hw'; obtain ⟨hc, hff, hz9⟩ := hk.walk; obtain ⟨y0, -⟩ := (hA.ext hk).walk; obtain ⟨y1, -⟩ := (hR.ext hk).walk; have y2 := (hc _ _ hP1).trans cP; have y3 := (hc _ _ hpb).trans cL; have y4 := (hc _ _ hV1).trans cV0; have y5 := (hc _ _ hV1).trans cV1
          refine ⟨rfl, ?_⟩
          simp only [putsL]
          change quietTo _ _ _ _ (Sem.run _ (execOp (Act.eval _) _) _)
          try simp only [Act.put, List.setIfInBounds_toArray, List.set_cons_succ, List.set_cons_zero]
          simp [go_sem, quietTo, Ext.refl, ↓IntWalk.iteOmega, y2]
          all_goals try simp (disch := omega) only [IntWalk.i64_in]
          all_goals first
            | rfl
        refine fac_quiet 3 rfl rfl rfl (fun _ _ h _ => h) rfl rfl ?_
        apply Exists.intro
        refine ⟨fun sv w' hw' hfa => ?_, ?_⟩
        · have hk := (Ext.refl W1).drew.trans hw'; obtain ⟨hc, hff, hz9⟩ := hk.walk; obtain ⟨y0, -⟩ := (hA.ext hk).walk; obtain ⟨y1, -⟩ := (hR.ext hk).walk; have y2 := (hc _ _ hP1).trans cP; have y3 := (hc _ _ hpb).trans cL; have y4 := (hc _ _ hV1).trans cV0; have y5 := (hc _ _ hV1).trans cV1
          refine ⟨rfl, ?_⟩
          simp only [putsL]
          change quietTo _ _ _ _ (Sem.run _ (execOp (Act.eval _) _) _)
          try simp only [Act.put, List.setIfInBounds_toArray, List.set_cons_succ, List.set_cons_zero]
          simp [go_sem, quietTo, Ext.refl, ↓IntWalk.iteOmega, y2]
          all_goals try simp (disch := omega) only [IntWalk.i64_in]
          all_goals first
            | rfl
        refine fac_quiet 4 rfl rfl rfl (fun _ _ h _ => h) rfl rfl ?_
        apply Exists.intro
        refine ⟨fun sv w' hw' hfa => ?_, ?_⟩
        · obtain ⟨f3, -⟩ := hfa
          replace f3 : sv 3 = _ := f3
          try dsimp only at f3
          have hk := (Ext.refl W1).drew.trans hw'; obtain ⟨hc, hff, hz9⟩ := hk.walk; obtain ⟨y0, -⟩ := (hA.ext hk).walk; obtain ⟨y1, -⟩ := (hR.ext hk).walk; have y2 := (hc _ _ hP1).trans cP; have y3 := (hc _ _ hpb).trans cL; have y4 := (hc _ _ hV1).trans cV0; have y5 := (hc _ _ hV1).trans cV1
          refine ⟨rfl, ?_⟩
          simp only [putsL]
          change quietTo _ _ _ _ (Sem.run _ (execOp (Act.eval (Act.put _ (some 18) (sv 3))) _) _)
          try simp only [Act.put, List.setIfInBounds_toArray, List.set_cons_succ, List.set_cons_zero]
          simp [go_sem, quietTo, Ext.refl, ↓IntWalk.iteOmega, f3]
          all_goals try simp (disch := omega) only [IntWalk.i64_in]
          all_goals first
            | rfl
        refine fac_quiet 5 rfl rfl rfl (fun _ _ h _ => h) rfl rfl ?_
        apply Exists.intro
        refine ⟨fun sv w' hw' hfa => ?_, ?_⟩
        · obtain ⟨f3, f4, -⟩ := hfa
          replace f3 : sv 3 = _ := f3
          try dsimp only at f3
          replace f4 : sv 4 = _ := f4
          try dsimp only at f4
          have hk := (Ext.refl W1).drew.trans hw'; obtain ⟨hc, hff, hz9⟩ := hk.walk; obtain ⟨y0, -⟩ := (hA.ext hk).walk; obtain ⟨y1, -⟩ := (hR.ext hk).walk; have y2 := (hc _ _ hP1).trans cP; have y3 := (hc _ _ hpb).trans cL; have y4 := (hc _ _ hV1).trans cV0; have y5 := (hc _ _ hV1).trans cV1
          refine ⟨rfl, ?_⟩
          simp only [putsL]
          change quietTo _ _ _ _ (Sem.run _ (execOp (Act.eval (Act.put (Act.put _ (some 19) (sv 4)) (some 18) (sv 3))) _) _)
          try simp only [Act.put, List.setIfInBounds_toArray, List.set_cons_succ, List.set_cons_zero]
          simp [go_sem, quietTo, Ext.refl, ↓IntWalk.iteOmega, f4, hm1, hm3]
          all_goals try simp (disch := omega) only [IntWalk.i64_in]
          all_goals first
            | rfl
        refine fac_quiet 6 rfl rfl rfl (fun _ _ h _ => h) rfl rfl ?_
        apply Exists.intro
        refine ⟨fun sv w' hw' hfa => ?_, ?_⟩
        · obtain ⟨f2, f3, f4, f5, -⟩ := hfa
          replace f2 : sv 2 = _ := f2
          try dsimp only at f2
          replace f3 : sv 3 = _ := f3
          try dsimp only at f3
          replace f4 : sv 4 = _ := f4
          try dsimp only at f4
          replace f5 : sv 5 = _ := f5
          try dsimp only at f5
          have hk := (Ext.refl W1).drew.trans hw'; obtain ⟨hc, hff, hz9⟩ := hk.walk; obtain ⟨y0, -⟩ := (hA.ext hk).walk; obtain ⟨y1, -⟩ := (hR.ext hk).walk; have y2 := (hc _ _ hP1).trans cP; have y3 := (hc _ _ hpb).trans cL; have y4 := (hc _ _ hV1).trans cV0; have y5 := (hc _ _ hV1).trans cV1
          refine ⟨rfl, ?_⟩
          simp only [putsL]
          change quietTo _ _ _ _ (Sem.run _ (execOp (Act.eval (Act.put (Act.put (Act.put (Act.put _ (some 20) (sv 5)) (some 19) (sv 4)) (some 18) (sv 3)) (some 17) (sv 2))) _) _)
          try simp only [Act.put, List.setIfInBounds_toArray, List.set_cons_succ, List.set_cons_zero]
          simp [go_sem, quietTo, Ext.refl, ↓IntWalk.iteOmega, f2, f5, y2, hm1, hm2, hm3]
          all_goals try simp (disch := omega) only [IntWalk.i64_in]
          all_goals first
            | rfl
        refine fac_quiet 7 rfl rfl rfl (fun _ _ h _ => h) rfl rfl ?_
        apply Exists.intro
        refine ⟨fun sv w' hw' hfa => ?_, ?_⟩
        · obtain ⟨f2, f3, f4, f5, f6, -⟩ := hfa
          replace f2 : sv 2 = _ := f2
          try dsimp only at f2
          replace f3 : sv 3 = _ := f3
          try dsimp only at f3
          replace f4 : sv 4 = _ := f4
          try dsimp only at f4
          replace f5 : sv 5 = _ := f5
          try dsimp only at f5
          replace f6 : sv 6 = _ := f6
          try dsimp only at f6
          have hk := (Ext.refl W1).drew.trans hw'; obtain ⟨hc, hff, hz9⟩ := hk.walk; obtain ⟨y0, -⟩ := (hA.ext hk).walk; obtain ⟨y1, -⟩ := (hR.ext hk).walk; have y2 := (hc _ _ hP1).trans cP; have y3 := (hc _ _ hpb).trans cL; have y4 := (hc _ _ hV1).trans cV0; have y5 := (hc _ _ hV1).trans cV1
          refine ⟨rfl, ?_⟩
          simp only [putsL]
          change quietTo _ _ _ _ (Sem.run _ (execOp (Act.eval (Act.put (Act.put (Act.put (Act.put (Act.put _ (some 21) (sv 6)) (some 20) (sv 5)) (some 19) (sv 4)) (some 18) (sv 3)) (some 17) (sv 2))) _) _)
          try simp only [Act.put, List.setIfInBounds_toArray, List.set_cons_succ, List.set_cons_zero]
          simp [go_sem, quietTo, Ext.refl, ↓IntWalk.iteOmega, f6, y3, hm1]
          all_goals try simp (disch := omega) only [IntWalk.i64_in]
          all_goals first
            | rfl
        refine fac_quiet 8 rfl rfl rfl (fun _ _ h _ => h) rfl rfl ?_
        apply Exists.intro
        refine ⟨fun sv w' hw' hfa => ?_, ?_⟩
        · obtain ⟨f0, f1, f2, f3, f4, f5, f6, f7, -⟩ := hfa
          replace f0 : sv 0 = _ := f0
          try dsimp only at f0
          replace f1 : sv 1 = _ := f1
          try dsimp only at f1
          replace f2 : sv 2 = _ := f2
          try dsimp only at f2
          replace f3 : sv 3 = _ := f3
          try dsimp only at f3
          replace f4 : sv 4 = _ := f4
          try dsimp only at f4
          replace f5 : sv 5 = _ := f5
          try dsimp only at f5
          replace f6 : sv 6 = _ := f6
          try dsimp only at f6
          replace f7 : sv 7 = _ := f7
          try dsimp only at f7
          have hk := (Ext.refl W1).drew.trans hw'; obtain ⟨hc, hff, hz9⟩ := hk.walk; obtain ⟨y0, -⟩ := (hA.ext hk).walk; obtain ⟨y1, -⟩ := (hR.ext hk).walk; have y2 := (hc _ _ hP1).trans cP; have y3 := (hc _ _ hpb).trans cL; have y4 := (hc _ _ hV1).trans cV0; have y5 := (hc _ _ hV1).trans cV1
          refine ⟨rfl, ?_⟩
          simp only [putsL]
          change quietTo _ _ _ _ (Sem.run _ (execOp (Act.eval (Act.put (Act.put (Act.put (Act.put (Act.put (Act.put (Act.put (Act.put _ (some 22) (sv 7)) (some 21) (sv 6)) (some 20) (sv 5)) (some 19) (sv 4)) (some 18) (sv 3)) (some 17) (sv 2)) (some 16) (sv 1)) (some 15) (sv 0))) _) _)
          try simp only [Act.put, List.setIfInBounds_toArray, List.set_cons_succ, List.set_cons_zero]
          simp [go_sem, quietTo, Ext.refl, ↓IntWalk.iteOmega, f1, f7, haa]
          all_goals try simp (disch := omega) only [IntWalk.i64_in]
          all_goals first
            | rfl
        refine fac_quiet 9 rfl rfl rfl (fun _ _ h _ => h) rfl rfl ?_
        apply Exists.intro
        refine ⟨fun sv w' hw' hfa => ?_, ?_⟩
        · obtain ⟨f0, f1, f2, f3, f4, f5, f6, f7, f8, -⟩ := hfa
          replace f0 : sv 0 = _ := f0
          try dsimp only at f0
          replace f1 : sv 1 = _ := f1
          try dsimp only at f1
          replace f2 : sv 2 = _ := f2
          try dsimp only at f2
          replace f3 : sv 3 = _ := f3
          try dsimp only at f3
          replace f4 : sv 4 = _ := f4
          try dsimp only at f4
          replace f5 : sv 5 = _ := f5
          try dsimp only at f5
          replace f6 : sv 6 = _ := f6
          try dsimp only at f6
          replace f7 : sv 7 = _ := f7
          try dsimp only at f7
          replace f8 : sv 8 = _ := f8
          try dsimp only at f8
          have hk := (Ext.refl W1).drew.trans hw'; obtain ⟨hc, hff, hz9⟩ := hk.walk; obtain ⟨y0, -⟩ := (hA.ext hk).walk; obtain ⟨y1, -⟩ := (hR.ext hk).walk; have y2 := (hc _ _ hP1).trans cP; have y3 := (hc _ _ hpb).trans cL; have y4 := (hc _ _ hV1).trans cV0; have y5 := (hc _ _ hV1).trans cV1
          refine ⟨rfl, ?_⟩
          simp only [putsL]
          change quietTo _ _ _ _ (Sem.run _ (execOp (Act.eval (Act.put (Act.put (Act.put (Act.put (Act.put (Act.put (Act.put (Act.put (Act.put _ (some 23) (sv 8)) (some 22) (sv 7)) (some 21) (sv 6)) (some 20) (sv 5)) (some 19) (sv 4)) (some 18) (sv 3)) (some 17) (sv 2)) (some 16) (sv 1)) (some 15) (sv 0))) _) _)
          try simp only [Act.put, List.setIfInBounds_toArray, List.set_cons_succ, List.set_cons_zero]
          simp [go_sem, quietTo, Ext.refl, f8]
          all_goals try simp (disch := omega) only [IntWalk.i64_in]
          all_goals first
            | rfl
        refine fac_quiet 10 rfl rfl rfl (fun _ _ h _ => h) rfl rfl ?_
        apply Exists.intro
        refine ⟨fun sv w' hw' hfa => ?_, ?_⟩
        · obtain ⟨f0, f1, f2, f3, f4, f5, f6, f7, f8, f9, -⟩ := hfa
          replace f0 : sv 0 = _ := f0
          try dsimp only at f0
          replace f1 : sv 1 = _ := f1
          try dsimp only at f1
          replace f2 : sv 2 = _ := f2
          try dsimp only at f2
          replace f3 : sv 3 = _ := f3
          try dsimp only at f3
          replace f4 : sv 4 = _ := f4
          try dsimp only at f4
          replace f5 : sv 5 = _ := f5
          try dsimp only at f5
          replace f6 : sv 6 = _ := f6
          try dsimp only at f6
          replace f7 : sv 7 = _ := f7
          try dsimp only at f7
          replace f8 : sv 8 = _ := f8
          try dsimp only at f8
          replace f9 : sv 9 = _ := f9
          try dsimp only at f9
          have hk := (Ext.refl W1).drew.trans hw'; obtain ⟨hc, hff, hz9⟩ := hk.walk; obtain ⟨y0, -⟩ := (hA.ext hk).walk; obtain ⟨y1, -⟩ := (hR.ext hk).walk; have y2 := (hc _ _ hP1).trans cP; have y3 := (hc _ _ hpb).trans cL; have y4 := (hc _ _ hV1).trans cV0; have y5 := (hc _ _ hV1).trans cV1
          refine ⟨by simp [Region.wanted, yielded, putsL, Act.put, f9], ?_⟩
          simp only [putsL]
          change quietTo _ _ _ _ (Sem.run _ (execOp (Act.eval (Act.put (Act.put (Act.put (Act.put (Act.put (Act.put (Act.put (Act.put (Act.put (Act.put _ (some 24) (sv 9)) (some 23) (sv 8)) (some 22) (sv 7)) (some 21) (sv 6)) (some 20) (sv 5)) (some 19) (sv 4)) (some 18) (sv 3)) (some 17) (sv 2)) (some 16) (sv 1)) (some 15) (sv 0))) _) _)
          try simp only [Act.put, List.setIfInBounds_toArray, List.set_cons_succ, List.set_cons_zero]
          simp [go_sem, quietTo, Ext.refl, f9]
          all_goals try simp (disch := omega) only [IntWalk.i64_in]
          all_goals first
            | rfl
        refine fac_quiet 11 rfl rfl rfl (fun _ _ h _ => h) rfl rfl ?_
        apply Exists.intro
        refine ⟨fun sv w' hw' hfa => ?_, ?_⟩
        · obtain ⟨f0, f1, f2, f3, f4, f5, f6, f7, f8, f9, f10, -⟩ := hfa
          replace f0 : sv 0 = _ := f0
          try dsimp only at f0
          replace f1 : sv 1 = _ := f1
          try dsimp only at f1
          replace f2 : sv 2 = _ := f2
          try dsimp only at f2
          replace f3 : sv 3 = _ := f3
          try dsimp only at f3
          replace f4 : sv 4 = _ := f4
          try dsimp only at f4
          replace f5 : sv 5 = _ := f5
          try dsimp only at f5
          replace f6 : sv 6 = _ := f6
          try dsimp only at f6
          replace f7 : sv 7 = _ := f7
          try dsimp only at f7
          replace f8 : sv 8 = _ := f8
          try dsimp only at f8
          replace f9 : sv 9 = _ := f9
          try dsimp only at f9
          replace f10 : sv 10 = _ := f10
          try dsimp only at f10
          have hk := (Ext.refl W1).drew.trans hw'; obtain ⟨hc, hff, hz9⟩ := hk.walk; obtain ⟨y0, -⟩ := (hA.ext hk).walk; obtain ⟨y1, -⟩ := (hR.ext hk).walk; have y2 := (hc _ _ hP1).trans cP; have y3 := (hc _ _ hpb).trans cL; have y4 := (hc _ _ hV1).trans cV0; have y5 := (hc _ _ hV1).trans cV1
          refine ⟨rfl, ?_⟩
          simp only [putsL]
          change quietTo _ _ _ _ (Sem.run _ (execOp (Act.eval (Act.put (Act.put (Act.put (Act.put (Act.put (Act.put (Act.put (Act.put (Act.put (Act.put (Act.put _ (some 25) (sv 10)) (some 24) (sv 9)) (some 23) (sv 8)) (some 22) (sv 7)) (some 21) (sv 6)) (some 20) (sv 5)) (some 19) (sv 4)) (some 18) (sv 3)) (some 17) (sv 2)) (some 16) (sv 1)) (some 15) (sv 0))) _) _)
          try simp only [Act.put, List.setIfInBounds_toArray, List.set_cons_succ, List.set_cons_zero]
          simp [go_sem, quietTo, Ext.refl, ↓IntWalk.iteOmega, f9, f10]
          all_goals try simp (disch := omega) only [IntWalk.i64_in]
          all_goals first
            | rfl
        refine fac_quiet 12 rfl rfl rfl (fun _ _ h _ => h) rfl rfl ?_
        apply Exists.intro
        refine ⟨fun sv w' hw' hfa => ?_, ?_⟩
        · obtain ⟨f0, f1, f2, f3, f4, f5, f6, f7, f8, f9, f10, f11, -⟩ := hfa
          replace f0 : sv 0 = _ := f0
          try dsimp only at f0
          replace f1 : sv 1 = _ := f1
          try dsimp only at f1
          replace f2 : sv 2 = _ := f2
          try dsimp only at f2
          replace f3 : sv 3 = _ := f3
          try dsimp only at f3
          replace f4 : sv 4 = _ := f4
          try dsimp only at f4
          replace f5 : sv 5 = _ := f5
          try dsimp only at f5
          replace f6 : sv 6 = _ := f6
          try dsimp only at f6
          replace f7 : sv 7 = _ := f7
          try dsimp only at f7
          replace f8 : sv 8 = _ := f8
          try dsimp only at f8
          replace f9 : sv 9 = _ := f9
          try dsimp only at f9
          replace f10 : sv 10 = _ := f10
          try dsimp only at f10
          replace f11 : sv 11 = _ := f11
          try dsimp only at f11
          have hk := (Ext.refl W1).drew.trans hw'; obtain ⟨hc, hff, hz9⟩ := hk.walk; obtain ⟨y0, -⟩ := (hA.ext hk).walk; obtain ⟨y1, -⟩ := (hR.ext hk).walk; have y2 := (hc _ _ hP1).trans cP; have y3 := (hc _ _ hpb).trans cL; have y4 := (hc _ _ hV1).trans cV0; have y5 := (hc _ _ hV1).trans cV1
          refine ⟨rfl, ?_⟩
          simp only [putsL]
          change quietTo _ _ _ _ (Sem.run _ (execOp (Act.eval (Act.put (Act.put (Act.put (Act.put (Act.put (Act.put (Act.put (Act.put (Act.put (Act.put (Act.put (Act.put _ (some 26) (sv 11)) (some 25) (sv 10)) (some 24) (sv 9)) (some 23) (sv 8)) (some 22) (sv 7)) (some 21) (sv 6)) (some 20) (sv 5)) (some 19) (sv 4)) (some 18) (sv 3)) (some 17) (sv 2)) (some 16) (sv 1)) (some 15) (sv 0))) _) _)
          try simp only [Act.put, List.setIfInBounds_toArray, List.set_cons_succ, List.set_cons_zero]
          simp [go_sem, quietTo, Ext.refl, f11]
          all_goals try simp (disch := omega) only [IntWalk.i64_in]
          all_goals first
            | rfl
        refine fac_quiet 13 rfl rfl rfl (fun _ _ h _ => h) rfl rfl ?_
        apply Exists.intro
        refine ⟨fun sv w' hw' hfa => ?_, ?_⟩
        · obtain ⟨f0, f1, f2, f3, f4, f5, f6, f7, f8, f9, f10, f11, f12, -⟩ := hfa
          replace f0 : sv 0 = _ := f0
          try dsimp only at f0
          replace f1 : sv 1 = _ := f1
          try dsimp only at f1
          replace f2 : sv 2 = _ := f2
          try dsimp only at f2
          replace f3 : sv 3 = _ := f3
          try dsimp only at f3
          replace f4 : sv 4 = _ := f4
          try dsimp only at f4
          replace f5 : sv 5 = _ := f5
          try dsimp only at f5
          replace f6 : sv 6 = _ := f6
          try dsimp only at f6
          replace f7 : sv 7 = _ := f7
          try dsimp only at f7
          replace f8 : sv 8 = _ := f8
          try dsimp only at f8
          replace f9 : sv 9 = _ := f9
          try dsimp only at f9
          replace f10 : sv 10 = _ := f10
          try dsimp only at f10
          replace f11 : sv 11 = _ := f11
          try dsimp only at f11
          replace f12 : sv 12 = _ := f12
          try dsimp only at f12
          have hk := (Ext.refl W1).drew.trans hw'; obtain ⟨hc, hff, hz9⟩ := hk.walk; obtain ⟨y0, -⟩ := (hA.ext hk).walk; obtain ⟨y1, -⟩ := (hR.ext hk).walk; have y2 := (hc _ _ hP1).trans cP; have y3 := (hc _ _ hpb).trans cL; have y4 := (hc _ _ hV1).trans cV0; have y5 := (hc _ _ hV1).trans cV1
          refine ⟨by simp [Region.wanted, yielded, putsL, Act.put, f12], ?_⟩
          simp only [putsL]
          change quietTo _ _ _ _ (Sem.run _ (execOp (Act.eval (Act.put (Act.put (Act.put (Act.put (Act.put (Act.put (Act.put (Act.put (Act.put (Act.put (Act.put (Act.put (Act.put _ (some 27) (sv 12)) (some 26) (sv 11)) (some 25) (sv 10)) (some 24) (sv 9)) (some 23) (sv 8)) (some 22) (sv 7)) (some 21) (sv 6)) (some 20) (sv 5)) (some 19) (sv 4)) (some 18) (sv 3)) (some 17) (sv 2)) (some 16) (sv 1)) (some 15) (sv 0))) _) _)
          try simp only [Act.put, List.setIfInBounds_toArray, List.set_cons_succ, List.set_cons_zero]
          simp [go_sem, quietTo, Ext.refl, ↓IntWalk.iteOmega, f12, y1]
          all_goals try simp (disch := omega) only [IntWalk.i64_in]
          all_goals first
            | rfl
        refine fac_quiet 14 rfl rfl rfl (fun _ _ h _ => h) rfl rfl ?_
        apply Exists.intro
        refine ⟨fun sv w' hw' hfa => ?_, ?_⟩
        · obtain ⟨f0, f1, f2, f3, f4, f5, f6, f7, f8, f9, f10, f11, f12, -⟩ := hfa
          replace f0 : sv 0 = _ := f0
          try dsimp only at f0
          replace f1 : sv 1 = _ := f1
          try dsimp only at f1
          replace f2 : sv 2 = _ := f2
          try dsimp only at f2
          replace f3 : sv 3 = _ := f3
          try dsimp only at f3
          replace f4 : sv 4 = _ := f4
          try dsimp only at f4
          replace f5 : sv 5 = _ := f5
          try dsimp only at f5
          replace f6 : sv 6 = _ := f6
          try dsimp only at f6
          replace f7 : sv 7 = _ := f7
          try dsimp only at f7
          replace f8 : sv 8 = _ := f8
          try dsimp only at f8
          replace f9 : sv 9 = _ := f9
          try dsimp only at f9
          replace f10 : sv 10 = _ := f10
          try dsimp only at f10
          replace f11 : sv 11 = _ := f11
          try dsimp only at f11
          replace f12 : sv 12 = _ := f12
          try dsimp only at f12
          have hk := (Ext.refl W1).drew.trans hw'; obtain ⟨hc, hff, hz9⟩ := hk.walk; obtain ⟨y0, -⟩ := (hA.ext hk).walk; obtain ⟨y1, -⟩ := (hR.ext hk).walk; have y2 := (hc _ _ hP1).trans cP; have y3 := (hc _ _ hpb).trans cL; have y4 := (hc _ _ hV1).trans cV0; have y5 := (hc _ _ hV1).trans cV1
          refine ⟨by simp [Region.wanted, yielded, putsL, Act.put, f12], ?_⟩
          simp only [putsL]
          change quietTo _ _ _ _ (Sem.run _ (execOp (Act.eval (Act.put (Act.put (Act.put (Act.put (Act.put (Act.put (Act.put (Act.put (Act.put (Act.put (Act.put (Act.put (Act.put _ (some 27) (sv 12)) (some 26) (sv 11)) (some 25) (sv 10)) (some 24) (sv 9)) (some 23) (sv 8)) (some 22) (sv 7)) (some 21) (sv 6)) (some 20) (sv 5)) (some 19) (sv 4)) (some 18) (sv 3)) (some 17) (sv 2)) (some 16) (sv 1)) (some 15) (sv 0))) _) _)
          try simp only [Act.put, List.setIfInBounds_toArray, List.set_cons_succ, List.set_cons_zero]
          simp [go_sem, quietTo, Ext.refl, ↓IntWalk.iteOmega, f12, y0]
          all_goals try simp (disch := omega) only [IntWalk.i64_in]
          all_goals first
            | rfl
        refine fac_quiet 15 rfl rfl rfl (fun _ _ h _ => h) rfl rfl ?_
        apply Exists.intro
        refine ⟨fun sv w' hw' hfa => ?_, ?_⟩
        · obtain ⟨f0, f1, f2, f3, f4, f5, f6, f7, f8, f9, f10, f11, f12, f13, f14, -⟩ := hfa
          replace f0 : sv 0 = _ := f0
          try dsimp only at f0
          replace f1 : sv 1 = _ := f1
          try dsimp only at f1
          replace f2 : sv 2 = _ := f2
          try dsimp only at f2
          replace f3 : sv 3 = _ := f3
          try dsimp only at f3
          replace f4 : sv 4 = _ := f4
          try dsimp only at f4
          replace f5 : sv 5 = _ := f5
          try dsimp only at f5
          replace f6 : sv 6 = _ := f6
          try dsimp only at f6
          replace f7 : sv 7 = _ := f7
          try dsimp only at f7
          replace f8 : sv 8 = _ := f8
          try dsimp only at f8
          replace f9 : sv 9 = _ := f9
          try dsimp only at f9
          replace f10 : sv 10 = _ := f10
          try dsimp only at f10
          replace f11 : sv 11 = _ := f11
          try dsimp only at f11
          replace f12 : sv 12 = _ := f12
          try dsimp only at f12
          replace f13 : sv 13 = _ := f13
          try dsimp only at f13
          replace f14 : sv 14 = _ := f14
          try dsimp only at f14
          have hk := (Ext.refl W1).drew.trans hw'; obtain ⟨hc, hff, hz9⟩ := hk.walk; obtain ⟨y0, -⟩ := (hA.ext hk).walk; obtain ⟨y1, -⟩ := (hR.ext hk).walk; have y2 := (hc _ _ hP1).trans cP; have y3 := (hc _ _ hpb).trans cL; have y4 := (hc _ _ hV1).trans cV0; have y5 := (hc _ _ hV1).trans cV1
          refine ⟨by simp [Region.wanted, yielded, putsL, Act.put, f12, f13, f14], ?_⟩
          simp only [putsL]
          change quietTo _ _ _ _ (Sem.run _ (execOp (Act.eval (Act.put (Act.put (Act.put (Act.put (Act.put (Act.put (Act.put (Act.put (Act.put (Act.put (Act.put (Act.put (Act.put (Act.put (Act.put _ (some 29) (sv 14)) (some 28) (sv 13)) (some 27) (sv 12)) (some 26) (sv 11)) (some 25) (sv 10)) (some 24) (sv 9)) (some 23) (sv 8)) (some 22) (sv 7)) (some 21) (sv 6)) (some 20) (sv 5)) (some 19) (sv 4)) (some 18) (sv 3)) (some 17) (sv 2)) (some 16) (sv 1)) (some 15) (sv 0))) _) _)
          try simp only [Act.put, List.setIfInBounds_toArray, List.set_cons_succ, List.set_cons_zero]
          simp [go_sem, quietTo, Ext.refl, ↓IntWalk.iteOmega, f12, f13, f14]
          all_goals try simp (disch := omega) only [IntWalk.i64_in]
          all_goals first
            | rfl
            | (exact hby.out _)
        refine fac_quiet 16 rfl rfl rfl (fun _ _ h _ => h) rfl rfl ?_
        apply Exists.intro
        refine ⟨fun sv w' hw' hfa => ?_, ?_⟩
        · obtain ⟨f0, f1, f2, f3, f4, f5, f6, f7, f8, f9, f10, f11, f12, -⟩ := hfa
          replace f0 : sv 0 = _ := f0
          try dsimp only at f0
          replace f1 : sv 1 = _ := f1
          try dsimp only at f1
          replace f2 : sv 2 = _ := f2
          try dsimp only at f2
          replace f3 : sv 3 = _ := f3
          try dsimp only at f3
          replace f4 : sv 4 = _ := f4
          try dsimp only at f4
          replace f5 : sv 5 = _ := f5
          try dsimp only at f5
          replace f6 : sv 6 = _ := f6
          try dsimp only at f6
          replace f7 : sv 7 = _ := f7
          try dsimp only at f7
          replace f8 : sv 8 = _ := f8
          try dsimp only at f8
          replace f9 : sv 9 = _ := f9
          try dsimp only at f9
          replace f10 : sv 10 = _ := f10
          try dsimp only at f10
          replace f11 : sv 11 = _ := f11
          try dsimp only at f11
          replace f12 : sv 12 = _ := f12
          try dsimp only at f12
          have hk := (Ext.refl W1).drew.trans hw'; obtain ⟨hc, hff, hz9⟩ := hk.walk; obtain ⟨y0, -⟩ := (hA.ext hk).walk; obtain ⟨y1, -⟩ := (hR.ext hk).walk; have y2 := (hc _ _ hP1).trans cP; have y3 := (hc _ _ hpb).trans cL; have y4 := (hc _ _ hV1).trans cV0; have y5 := (hc _ _ hV1).trans cV1
          refine ⟨by simp [Region.wanted, yielded, putsL, Act.put, f12], ?_⟩
          simp only [putsL]
          change quietTo _ _ _ _ (Sem.run _ (execOp (Act.eval (Act.put (Act.put (Act.put (Act.put (Act.put (Act.put (Act.put (Act.put (Act.put (Act.put (Act.put (Act.put (Act.put _ (some 27) (sv 12)) (some 26) (sv 11)) (some 25) (sv 10)) (some 24) (sv 9)) (some 23) (sv 8)) (some 22) (sv 7)) (some 21) (sv 6)) (some 20) (sv 5)) (some 19) (sv 4)) (some 18) (sv 3)) (some 17) (sv 2)) (some 16) (sv 1)) (some 15) (sv 0))) _) _)
          try simp only [Act.put, List.setIfInBounds_toArray, List.set_cons_succ, List.set_cons_zero]
          simp [go_sem, quietTo, Ext.refl, ↓IntWalk.iteOmega, f12, y4, y5]
          all_goals try simp (disch := omega) only [IntWalk.i64_in]
          all_goals first
            | rfl
        refine fac_quiet 17 rfl rfl rfl (fun _ _ h _ => h) rfl rfl ?_
        apply Exists.intro
        refine ⟨fun sv w' hw' hfa => ?_, ?_⟩
        · obtain ⟨f0, f1, f2, f3, f4, f5, f6, f7, f8, f9, f10, f11, f12, f13, f14, f15, f16, -⟩ := hfa
          replace f0 : sv 0 = _ := f0
          try dsimp only at f0
          replace f1 : sv 1 = _ := f1
          try dsimp only at f1
          replace f2 : sv 2 = _ := f2
          try dsimp only at f2
          replace f3 : sv 3 = _ := f3
          try dsimp only at f3
          replace f4 : sv 4 = _ := f4
          try dsimp only at f4
          replace f5 : sv 5 = _ := f5
          try dsimp only at f5
          replace f6 : sv 6 = _ := f6
          try dsimp only at f6
          replace f7 : sv 7 = _ := f7
          try dsimp only at f7
          replace f8 : sv 8 = _ := f8
          try dsimp only at f8
          replace f9 : sv 9 = _ := f9
          try dsimp only at f9
          replace f10 : sv 10 = _ := f10
          try dsimp only at f10
          replace f11 : sv 11 = _ := f11
          try dsimp only at f11
          replace f12 : sv 12 = _ := f12
          try dsimp only at f12
          replace f13 : sv 13 = _ := f13
          try dsimp only at f13
          replace f14 : sv 14 = _ := f14
          try dsimp only at f14
          replace f15 : sv 15 = _ := f15
          try dsimp only at f15
          replace f16 : sv 16 = _ := f16
          try dsimp only at f16
          have hk := (Ext.refl W1).drew.trans hw'; obtain ⟨hc, hff, hz9⟩ := hk.walk; obtain ⟨y0, -⟩ := (hA.ext hk).walk; obtain ⟨y1, -⟩ := (hR.ext hk).walk; have y2 := (hc _ _ hP1).trans cP; have y3 := (hc _ _ hpb).trans cL; have y4 := (hc _ _ hV1).trans cV0; have y5 := (hc _ _ hV1).trans cV1
          refine ⟨by simp [Region.wanted, yielded, putsL, Act.put, f12, f15, f16], ?_⟩
          simp only [putsL]
          change quietTo _ _ _ _ (Sem.run _ (execOp (Act.eval (Act.put (Act.put (Act.put (Act.put (Act.put (Act.put (Act.put (Act.put (Act.put (Act.put (Act.put (Act.put (Act.put (Act.put (Act.put (Act.put (Act.put _ (some 31) (sv 16)) (some 30) (sv 15)) (some 29) (sv 14)) (some 28) (sv 13)) (some 27) (sv 12)) (some 26) (sv 11)) (some 25) (sv 10)) (some 24) (sv 9)) (some 23) (sv 8)) (some 22) (sv 7)) (some 21) (sv 6)) (some 20) (sv 5)) (some 19) (sv 4)) (some 18) (sv 3)) (some 17) (sv 2)) (some 16) (sv 1)) (some 15) (sv 0))) _) _)
          try simp only [Act.put, List.setIfInBounds_toArray, List.set_cons_succ, List.set_cons_zero]
          simp [go_sem, quietTo, Ext.refl, ↓IntWalk.iteOmega, f12, f15, f16, h1]
          all_goals try simp (disch := omega) only [IntWalk.i64_in]
          all_goals first
            | rfl
        refine fac_quiet 18 rfl rfl rfl (fun _ _ h _ => h) rfl rfl ?_
        apply Exists.intro
        refine ⟨fun sv w' hw' hfa => ?_, ?_⟩
        · obtain ⟨f0, f1, f2, f3, f4, f5, f6, f7, f8, f9, f10, f11, f12, f13, f14, f15, f16, f17, -⟩ := hfa
          replace f0 : sv 0 = _ := f0
          try dsimp only at f0
          replace f1 : sv 1 = _ := f1
          try dsimp only at f1
          replace f2 : sv 2 = _ := f2
          try dsimp only at f2
          replace f3 : sv 3 = _ := f3
          try dsimp only at f3
          replace f4 : sv 4 = _ := f4
          try dsimp only at f4
          replace f5 : sv 5 = _ := f5
          try dsimp only at f5
          replace f6 : sv 6 = _ := f6
          try dsimp only at f6
          replace f7 : sv 7 = _ := f7
          try dsimp only at f7
          replace f8 : sv 8 = _ := f8
          try dsimp only at f8
          replace f9 : sv 9 = _ := f9
          try dsimp only at f9
          replace f10 : sv 10 = _ := f10
          try dsimp only at f10
          replace f11 : sv 11 = _ := f11
          try dsimp only at f11
          replace f12 : sv 12 = _ := f12
          try dsimp only at f12
          replace f13 : sv 13 = _ := f13
          try dsimp only at f13
          replace f14 : sv 14 = _ := f14
          try dsimp only at f14
          replace f15 : sv 15 = _ := f15
          try dsimp only at f15
          replace f16 : sv 16 = _ := f16
          try dsimp only at f16
          replace f17 : sv 17 = _ := f17
          try dsimp only at f17
          have hk := (Ext.refl W1).drew.trans hw'; obtain ⟨hc, hff, hz9⟩ := hk.walk; obtain ⟨y0, -⟩ := (hA.ext hk).walk; obtain ⟨y1, -⟩ := (hR.ext hk).walk; have y2 := (hc _ _ hP1).trans cP; have y3 := (hc _ _ hpb).trans cL; have y4 := (hc _ _ hV1).trans cV0; have y5 := (hc _ _ hV1).trans cV1
          refine ⟨rfl, ?_⟩
          simp only [putsL]
          change quietTo _ _ _ _ (Sem.run _ (execOp (Act.eval (Act.put (Act.put (Act.put (Act.put (Act.put (Act.put (Act.put (Act.put (Act.put (Act.put (Act.put (Act.put (Act.put (Act.put (Act.put (Act.put (Act.put (Act.put _ (some 32) (sv 17)) (some 31) (sv 16)) (some 30) (sv 15)) (some 29) (sv 14)) (some 28) (sv 13)) (some 27) (sv 12)) (some 26) (sv 11)) (some 25) (sv 10)) (some 24) (sv 9)) (some 23) (sv 8)) (some 22) (sv 7)) (some 21) (sv 6)) (some 20) (sv 5)) (some 19) (sv 4)) (some 18) (sv 3)) (some 17) (sv 2)) (some 16) (sv 1)) (some 15) (sv 0))) _) _)
          try simp only [Act.put, List.setIfInBounds_toArray, List.set_cons_succ, List.set_cons_zero]
          simp [go_sem, quietTo, Ext.refl, ↓IntWalk.iteOmega, f12, f17]
          all_goals try simp (disch := omega) only [IntWalk.i64_in]
          all_goals first
            | rfl
        refine fac_quiet 19 rfl rfl rfl (fun _ _ h _ => h) rfl rfl ?_
        apply Exists.intro
        refine ⟨fun sv w' hw' hfa => ?_, ?_⟩
        · obtain ⟨f0, f1, f2, f3, f4, f5, f6, f7, f8, f9, f10, f11, f12, f13, f14, f15, f16, f17, f18, -⟩ := hfa
          replace f0 : sv 0 = _ := f0
          try dsimp only at f0
          replace f1 : sv 1 = _ := f1
          try dsimp only at f1
          replace f2 : sv 2 = _ := f2
          try dsimp only at f2
          replace f3 : sv 3 = _ := f3
          try dsimp only at f3
          replace f4 : sv 4 = _ := f4
          try dsimp only at f4
          replace f5 : sv 5 = _ := f5
          try dsimp only at f5
          replace f6 : sv 6 = _ := f6
          try dsimp only at f6
          replace f7 : sv 7 = _ := f7
          try dsimp only at f7
          replace f8 : sv 8 = _ := f8
          try dsimp only at f8
          replace f9 : sv 9 = _ := f9
          try dsimp only at f9
          replace f10 : sv 10 = _ := f10
          try dsimp only at f10
          replace f11 : sv 11 = _ := f11
          try dsimp only at f11
          replace f12 : sv 12 = _ := f12
          try dsimp only at f12
          replace f13 : sv 13 = _ := f13
          try dsimp only at f13
          replace f14 : sv 14 = _ := f14
          try dsimp only at f14
          replace f15 : sv 15 = _ := f15
          try dsimp only at f15
          replace f16 : sv 16 = _ := f16
          try dsimp only at f16
          replace f17 : sv 17 = _ := f17
          try dsimp only at f17
          replace f18 : sv 18 = _ := f18
          try dsimp only at f18
          have hk := (Ext.refl W1).drew.trans hw'; obtain ⟨hc, hff, hz9⟩ := hk.walk; obtain ⟨y0, -⟩ := (hA.ext hk).walk; obtain ⟨y1, -⟩ := (hR.ext hk).walk; have y2 := (hc _ _ hP1).trans cP; have y3 := (hc _ _ hpb).trans cL; have y4 := (hc _ _ hV1).trans cV0; have y5 := (hc _ _ hV1).trans cV1
          refine ⟨rfl, ?_⟩
          simp only [putsL]
          change quietTo _ _ _ _ (Sem.run _ (execOp (Act.eval (Act.put (Act.put (Act.put (Act.put (Act.put (Act.put (Act.put (Act.put (Act.put (Act.put (Act.put (Act.put (Act.put (Act.put (Act.put (Act.put (Act.put (Act.put (Act.put _ (some 33) (sv 18)) (some 32) (sv 17)) (some 31) (sv 16)) (some 30) (sv 15)) (some 29) (sv 14)) (some 28) (sv 13)) (some 27) (sv 12)) (some 26) (sv 11)) (some 25) (sv 10)) (some 24) (sv 9)) (some 23) (sv 8)) (some 22) (sv 7)) (some 21) (sv 6)) (some 20) (sv 5)) (some 19) (sv 4)) (some 18) (sv 3)) (some 17) (sv 2)) (some 16) (sv 1)) (some 15) (sv 0))) _) _)
          try simp only [Act.put, List.setIfInBounds_toArray, List.set_cons_succ, List.set_cons_zero]
          simp [go_sem, quietTo, Ext.refl, f18]
          all_goals try simp (disch := omega) only [IntWalk.i64_in]
          all_goals first
            | rfl
        refine fac_nil fun xb wrb herb hfrb hcrb holdb hapb => ?_
        obtain ⟨f0, f1, f2, f3, f4, f5, f6, f7, f8, f9, f10, f11, f12, f13, f14, f15, f16, f17, f18, f19, -⟩ := hfrb
        replace f0 : xb 0 = _ := f0
        try dsimp only at f0
        replace f1 : xb 1 = _ := f1
        try dsimp only at f1
        replace f2 : xb 2 = _ := f2
        try dsimp only at f2
        replace f3 : xb 3 = _ := f3
        try dsimp only at f3
        replace f4 : xb 4 = _ := f4
        try dsimp only at f4
        replace f5 : xb 5 = _ := f5
        try dsimp only at f5
        replace f6 : xb 6 = _ := f6
        try dsimp only at f6
        replace f7 : xb 7 = _ := f7
        try dsimp only at f7
        replace f8 : xb 8 = _ := f8
        try dsimp only at f8
        replace f9 : xb 9 = _ := f9
        try dsimp only at f9
        replace f10 : xb 10 = _ := f10
        try dsimp only at f10
        replace f11 : xb 11 = _ := f11
        try dsimp only at f11
        replace f12 : xb 12 = _ := f12
        try dsimp only at f12
        replace f13 : xb 13 = _ := f13
        try dsimp only at f13
        replace f14 : xb 14 = _ := f14
        try dsimp only at f14
        replace f15 : xb 15 = _ := f15
        try dsimp only at f15
        replace f16 : xb 16 = _ := f16
        try dsimp only at f16
        replace f17 : xb 17 = _ := f17
        try dsimp only at f17
        replace f18 : xb 18 = _ := f18
        try dsimp only at f18
        replace f19 : xb 19 = _ := f19
        try dsimp only at f19
        change wpList _ _ _ _ (Act.put (Act.put (Act.put (Act.put (Act.put (Act.put (Act.put (Act.put (Act.put (Act.put (Act.put (Act.put (Act.put (Act.put (Act.put (Act.put (Act.put (Act.put (Act.put (Act.put _ (some 15) (xb 0)) (some 16) (xb 1)) (some 17) (xb 2)) (some 18) (xb 3)) (some 19) (xb 4)) (some 20) (xb 5)) (some 21) (xb 6)) (some 22) (xb 7)) (some 23) (xb 8)) (some 24) (xb 9)) (some 25) (xb 10)) (some 26) (xb 11)) (some 27) (xb 12)) (some 28) (xb 13)) (some 29) (xb 14)) (some 30) (xb 15)) (some 31) (xb 16)) (some 32) (xb 17)) (some 33) (xb 18)) (some 5) (xb 19)) _
        simp only [putsL, Nat.reduceAdd, List.drop_succ_cons, List.drop_zero, List.drop_nil, Act.put, List.setIfInBounds_toArray, List.set_cons_succ, List.set_cons_zero]
        try simp only [f0, f1, f2, f3, f4, f5, f6, f7, f8, f9, f10, f11, f12, f13, f14, f15, f16, f17, f18, f19]
        clear f0 f1 f2 f3 f4 f5 f6 f7 f8 f9 f10 f11 f12 f13 f14 f15 f16 f17 f18 f19
        clear holdb hapb
        go_wp2
        go_ret
        exact ⟨by simp [h1], hE1.trans ((Ext.refl _).drew.trans herb)⟩
end Go.Proofs.YtlmbpgjdepmlcaaDoor
