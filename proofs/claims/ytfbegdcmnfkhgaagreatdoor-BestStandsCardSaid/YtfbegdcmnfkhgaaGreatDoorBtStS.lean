/- Who hides whom, by the document's text: the walks. Conditions: people, stage and stands are right. -/
import Derived.Test.YtfbegdcmnfkhgaaGreatDoorBtJ25
import Derived.Test.YtfbegdcmnfkhgaaGreatDoorBtStR
set_option linter.unusedSimpArgs false
set_option linter.unusedVariables false
namespace Go.Proofs.YtfbegdcmnfkhgaaGreatDoor
open Go Go.RowKit

set_option maxRecDepth 100000 in
set_option maxHeartbeats 1600000 in
theorem rposition_any (wp : Option Addr) (wc : Nat) (hp : Option Addr) (hn hc : Nat) (wide : List Int) (x : StandV) (w : World) (hw : Slc 1 intC w wp wide.length wc wide) (hok : WideOk wide) (hx : OnStage wide x) :
    Calls Tryz.prog 171 #[.agg #[.slice wp wide.length wc, .slice hp hn hc], .agg #[.string x.name, .int .i64 x.row, .int .i64 x.place]] w fun e w' => e = .returned (.int .i64 (posS wide x)) ∧ Ext w w' := by
  obtain ⟨x1, x2, x3, x4⟩ := hx
  obtain ⟨r, hr⟩ : ∃ r : Nat, x.row = r := ⟨x.row.toNat, by omega⟩
  obtain ⟨v, hv⟩ := getD_some (rfl : wide.length = wide.length) (show r < wide.length by omega)
  have hpos : posS wide x = 2 * x.place + 1 - v := by
    unfold posS
    rw [hr, Int.toNat_natCast, List.getD_eq_getElem?_getD, hv]
    rfl
  have hvb := hok.2 v (List.mem_of_getElem? hv)
  rcases (slcC hw).2 with ⟨-, e⟩ | ⟨wb, wo, rfl, hwb, hwE⟩
  · rw [e] at hv; cases hv
  have c1 := hwE.int hv
  rw [hpos, hr]
  have hrI : (r : Int) < wide.length := by omega
  have hX : Blk ((w.alloc (.cells #[.slice (some ⟨wb, wo, none⟩) wide.length wc, .slice hp hn hc] 29)).alloc (.cells #[.string x.name, .int .i64 r, .int .i64 x.place] 46)) w.heap.size 29 #[.slice (some ⟨wb, wo, none⟩) wide.length wc, .slice hp hn hc] := (Blk.new' rfl).alloc _
  have hY : Blk ((w.alloc (.cells #[.slice (some ⟨wb, wo, none⟩) wide.length wc, .slice hp hn hc] 29)).alloc (.cells #[.string x.name, .int .i64 r, .int .i64 x.place] 46)) (w.heap.size + 1) 46 #[.string x.name, .int .i64 r, .int .i64 x.place] := Blk.new' (by simp)
  have hE : Ext w ((w.alloc (.cells #[.slice (some ⟨wb, wo, none⟩) wide.length wc, .slice hp hn hc] 29)).alloc (.cells #[.string x.name, .int .i64 r, .int .i64 x.place] 46)) := ((Ext.refl _).alloc _).alloc _
  clear hw hok hwE hv hpos x1 x2 hr
  go_enter Tryz.func171, Tryz.ntmps171
  go_upto_region 1 with fail
  generalize (w.alloc (.cells #[.slice (some ⟨wb, wo, none⟩) wide.length wc, .slice hp hn hc] 29)).alloc (.cells #[.string x.name, .int .i64 r, .int .i64 x.place] 46) = W at *
  refine wp_region_facts [] [([], false, false), ([0], false, false), ([0, 1], false, false), ([0, 1, 2], false, false), ([], false, false), ([4], false, false), ([], false, false), ([6], false, false), ([4, 5, 6, 7], false, false), ([4, 5, 6, 7, 8], false, false), ([0, 1, 2, 3, 4, 5, 6, 7, 8, 9], false, false)] (Ext) Ext (fun _ => True) (by kernel_rfl) (by kernel_rfl) Ext.refl (fun _ _ _ => Ext.trans) (fun _ _ h => h) (fun _ _ h => h.size) (fun _ _ h _ => h) trivial ?_
  dsimp only [List.length_cons, List.length_nil, List.drop_succ_cons, List.drop_zero, List.drop_nil]
  refine fac_quiet 0 rfl rfl rfl (fun _ _ h _ => h) rfl rfl ?_
  apply Exists.intro
  refine ⟨fun sv w' hw' hfa => ?_, ?_⟩
  · refine ⟨rfl, ?_⟩
    simp only [putsL]
    change quietTo _ _ _ _ (Sem.run _ (execOp (Act.eval _) _) _)
    try simp only [Act.put, List.setIfInBounds_toArray, List.set_cons_succ, List.set_cons_zero]
    simp [go_sem, quietTo, Ext.refl]
    all_goals first
      | rfl
  refine fac_quiet 1 rfl rfl rfl (fun _ _ h _ => h) rfl rfl ?_
  apply Exists.intro
  refine ⟨fun sv w' hw' hfa => ?_, ?_⟩
  · obtain ⟨f0, -⟩ := hfa
    replace f0 : sv 0 = _ := f0
    try dsimp only at f0
    have hk9 := (Ext.refl W).drew.trans hw'; obtain ⟨y1, -⟩ := (hX.ext hk9).walk; obtain ⟨y2, -⟩ := (hY.ext hk9).walk; obtain ⟨hc9, hff, hz9⟩ := (hE.trans hk9).walk; have y3 := (hc9 _ _ hwb).trans c1
    refine ⟨rfl, ?_⟩
    simp only [putsL]
    change quietTo _ _ _ _ (Sem.run _ (execOp (Act.eval (Act.put _ (some 5) (sv 0))) _) _)
    try simp only [Act.put, List.setIfInBounds_toArray, List.set_cons_succ, List.set_cons_zero]
    simp [go_sem, quietTo, Ext.refl, ↓IntWalk.iteOmega, f0, y2]
    all_goals try simp (disch := omega) only [IntWalk.i64_in]
    all_goals first
      | rfl
  refine fac_quiet 2 rfl rfl rfl (fun _ _ h _ => h) rfl rfl ?_
  apply Exists.intro
  refine ⟨fun sv w' hw' hfa => ?_, ?_⟩
  · obtain ⟨_, f1, -⟩ := hfa
    replace f1 : sv 1 = _ := f1
    try dsimp only at f1
    refine ⟨rfl, ?_⟩
    simp only [putsL]
    change quietTo _ _ _ _ (Sem.run _ (execOp (Act.eval (Act.put (Act.put _ (some 6) (sv 1)) (some 5) (sv 0))) _) _)
    try simp only [Act.put, List.setIfInBounds_toArray, List.set_cons_succ, List.set_cons_zero]
    simp [go_sem, quietTo, Ext.refl, ↓IntWalk.iteOmega, f1]
    all_goals try simp (disch := omega) only [IntWalk.i64_in]
    all_goals first
      | rfl
  refine fac_quiet 3 rfl rfl rfl (fun _ _ h _ => h) rfl rfl ?_
  apply Exists.intro
  refine ⟨fun sv w' hw' hfa => ?_, ?_⟩
  · obtain ⟨_, _, f2, -⟩ := hfa
    replace f2 : sv 2 = _ := f2
    try dsimp only at f2
    refine ⟨rfl, ?_⟩
    simp only [putsL]
    change quietTo _ _ _ _ (Sem.run _ (execOp (Act.eval (Act.put (Act.put (Act.put _ (some 7) (sv 2)) (some 6) (sv 1)) (some 5) (sv 0))) _) _)
    try simp only [Act.put, List.setIfInBounds_toArray, List.set_cons_succ, List.set_cons_zero]
    simp [go_sem, quietTo, Ext.refl, ↓IntWalk.iteOmega, f2]
    all_goals try simp (disch := omega) only [IntWalk.i64_in]
    all_goals first
      | rfl
  refine fac_quiet 4 rfl rfl rfl (fun _ _ h _ => h) rfl rfl ?_
  apply Exists.intro
  refine ⟨fun sv w' hw' hfa => ?_, ?_⟩
  · refine ⟨rfl, ?_⟩
    simp only [putsL]
    change quietTo _ _ _ _ (Sem.run _ (execOp (Act.eval _) _) _)
    try simp only [Act.put, List.setIfInBounds_toArray, List.set_cons_succ, List.set_cons_zero]
    simp [go_sem, quietTo, Ext.refl]
    all_goals first
      | rfl
  refine fac_quiet 5 rfl rfl rfl (fun _ _ h _ => h) rfl rfl ?_
  apply Exists.intro
  refine ⟨fun sv w' hw' hfa => ?_, ?_⟩
  · obtain ⟨f4, -⟩ := hfa
    replace f4 : sv 4 = _ := f4
    try dsimp only at f4
    have hk9 := (Ext.refl W).drew.trans hw'; obtain ⟨y1, -⟩ := (hX.ext hk9).walk; obtain ⟨y2, -⟩ := (hY.ext hk9).walk; obtain ⟨hc9, hff, hz9⟩ := (hE.trans hk9).walk; have y3 := (hc9 _ _ hwb).trans c1
    refine ⟨rfl, ?_⟩
    simp only [putsL]
    change quietTo _ _ _ _ (Sem.run _ (execOp (Act.eval (Act.put _ (some 9) (sv 4))) _) _)
    try simp only [Act.put, List.setIfInBounds_toArray, List.set_cons_succ, List.set_cons_zero]
    simp [go_sem, quietTo, Ext.refl, ↓IntWalk.iteOmega, f4, y1]
    all_goals try simp (disch := omega) only [IntWalk.i64_in]
    all_goals first
      | rfl
  refine fac_quiet 6 rfl rfl rfl (fun _ _ h _ => h) rfl rfl ?_
  apply Exists.intro
  refine ⟨fun sv w' hw' hfa => ?_, ?_⟩
  · refine ⟨rfl, ?_⟩
    simp only [putsL]
    change quietTo _ _ _ _ (Sem.run _ (execOp (Act.eval _) _) _)
    try simp only [Act.put, List.setIfInBounds_toArray, List.set_cons_succ, List.set_cons_zero]
    simp [go_sem, quietTo, Ext.refl]
    all_goals first
      | rfl
  refine fac_quiet 7 rfl rfl rfl (fun _ _ h _ => h) rfl rfl ?_
  apply Exists.intro
  refine ⟨fun sv w' hw' hfa => ?_, ?_⟩
  · obtain ⟨f6, -⟩ := hfa
    replace f6 : sv 6 = _ := f6
    try dsimp only at f6
    have hk9 := (Ext.refl W).drew.trans hw'; obtain ⟨y1, -⟩ := (hX.ext hk9).walk; obtain ⟨y2, -⟩ := (hY.ext hk9).walk; obtain ⟨hc9, hff, hz9⟩ := (hE.trans hk9).walk; have y3 := (hc9 _ _ hwb).trans c1
    refine ⟨rfl, ?_⟩
    simp only [putsL]
    change quietTo _ _ _ _ (Sem.run _ (execOp (Act.eval (Act.put _ (some 11) (sv 6))) _) _)
    try simp only [Act.put, List.setIfInBounds_toArray, List.set_cons_succ, List.set_cons_zero]
    simp [go_sem, quietTo, Ext.refl, ↓IntWalk.iteOmega, f6, y2]
    all_goals try simp (disch := omega) only [IntWalk.i64_in]
    all_goals first
      | rfl
  refine fac_quiet 8 rfl rfl rfl (fun _ _ h _ => h) rfl rfl ?_
  apply Exists.intro
  refine ⟨fun sv w' hw' hfa => ?_, ?_⟩
  · obtain ⟨_, f5, _, f7, -⟩ := hfa
    replace f5 : sv 5 = _ := f5
    try dsimp only at f5
    replace f7 : sv 7 = _ := f7
    try dsimp only at f7
    have hk9 := (Ext.refl W).drew.trans hw'; obtain ⟨y1, -⟩ := (hX.ext hk9).walk; obtain ⟨y2, -⟩ := (hY.ext hk9).walk; obtain ⟨hc9, hff, hz9⟩ := (hE.trans hk9).walk; have y3 := (hc9 _ _ hwb).trans c1
    refine ⟨rfl, ?_⟩
    simp only [putsL]
    change quietTo _ _ _ _ (Sem.run _ (execOp (Act.eval (Act.put (Act.put (Act.put (Act.put _ (some 12) (sv 7)) (some 11) (sv 6)) (some 10) (sv 5)) (some 9) (sv 4))) _) _)
    try simp only [Act.put, List.setIfInBounds_toArray, List.set_cons_succ, List.set_cons_zero]
    simp [go_sem, quietTo, Ext.refl, ↓IntWalk.iteOmega, f5, f7, hrI]
    all_goals try simp (disch := omega) only [IntWalk.i64_in]
    all_goals first
      | rfl
  refine fac_quiet 9 rfl rfl rfl (fun _ _ h _ => h) rfl rfl ?_
  apply Exists.intro
  refine ⟨fun sv w' hw' hfa => ?_, ?_⟩
  · obtain ⟨_, _, _, _, f8, -⟩ := hfa
    replace f8 : sv 8 = _ := f8
    try dsimp only at f8
    have hk9 := (Ext.refl W).drew.trans hw'; obtain ⟨y1, -⟩ := (hX.ext hk9).walk; obtain ⟨y2, -⟩ := (hY.ext hk9).walk; obtain ⟨hc9, hff, hz9⟩ := (hE.trans hk9).walk; have y3 := (hc9 _ _ hwb).trans c1
    refine ⟨rfl, ?_⟩
    simp only [putsL]
    change quietTo _ _ _ _ (Sem.run _ (execOp (Act.eval (Act.put (Act.put (Act.put (Act.put (Act.put _ (some 13) (sv 8)) (some 12) (sv 7)) (some 11) (sv 6)) (some 10) (sv 5)) (some 9) (sv 4))) _) _)
    try simp only [Act.put, List.setIfInBounds_toArray, List.set_cons_succ, List.set_cons_zero]
    simp [go_sem, quietTo, Ext.refl, ↓IntWalk.iteOmega, f8, y3]
    all_goals try simp (disch := omega) only [IntWalk.i64_in]
    all_goals first
      | rfl
  refine fac_quiet 10 rfl rfl rfl (fun _ _ h _ => h) rfl rfl ?_
  apply Exists.intro
  refine ⟨fun sv w' hw' hfa => ?_, ?_⟩
  · obtain ⟨_, _, _, f3, _, _, _, _, _, f9, -⟩ := hfa
    replace f3 : sv 3 = _ := f3
    try dsimp only at f3
    replace f9 : sv 9 = _ := f9
    try dsimp only at f9
    refine ⟨rfl, ?_⟩
    simp only [putsL]
    change quietTo _ _ _ _ (Sem.run _ (execOp (Act.eval (Act.put (Act.put (Act.put (Act.put (Act.put (Act.put (Act.put (Act.put (Act.put (Act.put _ (some 14) (sv 9)) (some 13) (sv 8)) (some 12) (sv 7)) (some 11) (sv 6)) (some 10) (sv 5)) (some 9) (sv 4)) (some 8) (sv 3)) (some 7) (sv 2)) (some 6) (sv 1)) (some 5) (sv 0))) _) _)
    try simp only [Act.put, List.setIfInBounds_toArray, List.set_cons_succ, List.set_cons_zero]
    simp [go_sem, quietTo, Ext.refl, ↓IntWalk.iteOmega, f3, f9]
    all_goals try simp (disch := omega) only [IntWalk.i64_in]
    all_goals first
      | rfl
  refine fac_nil fun xq wrq herq hfrq hcrq holdq hapq => ?_
  obtain ⟨f0, f1, f2, f3, f4, f5, f6, f7, f8, f9, f10, -⟩ := hfrq
  replace f0 : xq 0 = _ := f0
  try dsimp only at f0
  replace f1 : xq 1 = _ := f1
  try dsimp only at f1
  replace f2 : xq 2 = _ := f2
  try dsimp only at f2
  replace f3 : xq 3 = _ := f3
  try dsimp only at f3
  replace f4 : xq 4 = _ := f4
  try dsimp only at f4
  replace f5 : xq 5 = _ := f5
  try dsimp only at f5
  replace f6 : xq 6 = _ := f6
  try dsimp only at f6
  replace f7 : xq 7 = _ := f7
  try dsimp only at f7
  replace f8 : xq 8 = _ := f8
  try dsimp only at f8
  replace f9 : xq 9 = _ := f9
  try dsimp only at f9
  replace f10 : xq 10 = _ := f10
  try dsimp only at f10
  change wpList _ _ _ _ (Act.put (Act.put (Act.put (Act.put (Act.put (Act.put (Act.put (Act.put (Act.put (Act.put (Act.put _ (some 5) (xq 0)) (some 6) (xq 1)) (some 7) (xq 2)) (some 8) (xq 3)) (some 9) (xq 4)) (some 10) (xq 5)) (some 11) (xq 6)) (some 12) (xq 7)) (some 13) (xq 8)) (some 14) (xq 9)) (some 15) (xq 10)) _
  simp only [putsL, Nat.reduceAdd, List.drop_succ_cons, List.drop_zero, List.drop_nil, Act.put, List.setIfInBounds_toArray, List.set_cons_succ, List.set_cons_zero]
  try simp only [f0, f1, f2, f3, f4, f5, f6, f7, f8, f9, f10]
  clear f0 f1 f2 f3 f4 f5 f6 f7 f8 f9 f10
  clear holdq hapq
  go_wp2
  go_ret
  exact ⟨rfl, hE.trans ((Ext.refl _).drew.trans herq)⟩
set_option maxRecDepth 100000 in
set_option maxHeartbeats 1600000 in
theorem rnear_any (wp : Option Addr) (wc : Nat) (hp : Option Addr) (hn hc : Nat) (wide : List Int) (x y : StandV) (w : World) (hw : Slc 1 intC w wp wide.length wc wide) (hok : WideOk wide) (hx : OnStage wide x) (hy : OnStage wide y) :
    Calls Tryz.prog 141 #[.agg #[.slice wp wide.length wc, .slice hp hn hc], .agg #[.string x.name, .int .i64 x.row, .int .i64 x.place], .agg #[.string y.name, .int .i64 y.row, .int .i64 y.place]] w fun e w' => e = .returned (.bool (nearS wide x y)) ∧ Ext w w' := by
  have bx := pos_bound hok hx
  have b2 := pos_bound hok hy
  have hn9 : nearS wide x y = inB (posS wide x - posS wide y) (-1) 1 := rfl
  rw [hn9]
  clear hn9
  have hpx := fun u (hu : Ext w u) => rposition_any wp wc hp hn hc wide x u (hw.ext hu) hok hx
  have hpy := fun u (hu : Ext w u) => rposition_any wp wc hp hn hc wide y u (hw.ext hu) hok hy
  generalize posS wide x = px at *
  generalize posS wide y = py at *
  have hX : Blk (((w.alloc (.cells #[.slice wp wide.length wc, .slice hp hn hc] 29)).alloc (.cells #[.string x.name, .int .i64 x.row, .int .i64 x.place] 46)).alloc (.cells #[.string y.name, .int .i64 y.row, .int .i64 y.place] 46)) w.heap.size 29 #[.slice wp wide.length wc, .slice hp hn hc] := ((Blk.new' rfl).alloc _).alloc _
  have hY : Blk (((w.alloc (.cells #[.slice wp wide.length wc, .slice hp hn hc] 29)).alloc (.cells #[.string x.name, .int .i64 x.row, .int .i64 x.place] 46)).alloc (.cells #[.string y.name, .int .i64 y.row, .int .i64 y.place] 46)) (w.heap.size + 1) 46 #[.string x.name, .int .i64 x.row, .int .i64 x.place] := (Blk.new' (by simp)).alloc _
  have hZ : Blk (((w.alloc (.cells #[.slice wp wide.length wc, .slice hp hn hc] 29)).alloc (.cells #[.string x.name, .int .i64 x.row, .int .i64 x.place] 46)).alloc (.cells #[.string y.name, .int .i64 y.row, .int .i64 y.place] 46)) (w.heap.size + 1 + 1) 46 #[.string y.name, .int .i64 y.row, .int .i64 y.place] := Blk.new' (by simp)
  have hE : Ext w (((w.alloc (.cells #[.slice wp wide.length wc, .slice hp hn hc] 29)).alloc (.cells #[.string x.name, .int .i64 x.row, .int .i64 x.place] 46)).alloc (.cells #[.string y.name, .int .i64 y.row, .int .i64 y.place] 46)) := (((Ext.refl _).alloc _).alloc _).alloc _
  have hwr : IntKind.i64.wrap (px - py) = px - py := IntWalk.i64_in _ (by omega)
  replace hpx := Lib.hid hpx
  replace hpy := Lib.hid hpy
  clear hw hok hx hy
  go_enter Tryz.func141, Tryz.ntmps141
  go_upto_region 1 with fail
  generalize ((w.alloc (.cells #[.slice wp wide.length wc, .slice hp hn hc] 29)).alloc (.cells #[.string x.name, .int .i64 x.row, .int .i64 x.place] 46)).alloc (.cells #[.string y.name, .int .i64 y.row, .int .i64 y.place] 46) = W at *
  refine wp_region_facts [] [([], false, false), ([], false, false), ([0, 1], false, false), ([], false, false), ([], false, false), ([3, 4], false, false), ([0, 1, 2, 3, 4, 5], false, false), ([0, 1, 2, 3, 4, 5, 6], false, false), ([0, 1, 2, 3, 4, 5, 6, 7], false, false)] (Ext) Ext (fun _ => True) (by kernel_rfl) (by kernel_rfl) Ext.refl (fun _ _ _ => Ext.trans) (fun _ _ h => h) (fun _ _ h => h.size) (fun _ _ h _ => h) trivial ?_
  dsimp only [List.length_cons, List.length_nil, List.drop_succ_cons, List.drop_zero, List.drop_nil]
  refine fac_quiet 0 rfl rfl rfl (fun _ _ h _ => h) rfl rfl ?_
  apply Exists.intro
  refine ⟨fun sv w' hw' hfa => ?_, ?_⟩
  · have hk9 := (Ext.refl W).drew.trans hw'; obtain ⟨y1, -⟩ := (hX.ext hk9).walk; obtain ⟨y2, -⟩ := (hY.ext hk9).walk; obtain ⟨y3, -⟩ := (hZ.ext hk9).walk
    refine ⟨rfl, ?_⟩
    simp only [putsL]
    change quietTo _ _ _ _ (Sem.run _ (execOp (Act.eval _) _) _)
    try simp only [Act.put, List.setIfInBounds_toArray, List.set_cons_succ, List.set_cons_zero]
    simp [go_sem, quietTo, Ext.refl, ↓IntWalk.iteOmega, y1]
    all_goals try simp (disch := omega) only [IntWalk.i64_in]
    all_goals first
      | rfl
  refine fac_quiet 1 rfl rfl rfl (fun _ _ h _ => h) rfl rfl ?_
  apply Exists.intro
  refine ⟨fun sv w' hw' hfa => ?_, ?_⟩
  · have hk9 := (Ext.refl W).drew.trans hw'; obtain ⟨y1, -⟩ := (hX.ext hk9).walk; obtain ⟨y2, -⟩ := (hY.ext hk9).walk; obtain ⟨y3, -⟩ := (hZ.ext hk9).walk
    refine ⟨rfl, ?_⟩
    simp only [putsL]
    change quietTo _ _ _ _ (Sem.run _ (execOp (Act.eval _) _) _)
    try simp only [Act.put, List.setIfInBounds_toArray, List.set_cons_succ, List.set_cons_zero]
    simp [go_sem, quietTo, Ext.refl, ↓IntWalk.iteOmega, y2]
    all_goals try simp (disch := omega) only [IntWalk.i64_in]
    all_goals first
      | rfl
  refine fac_quiet 2 rfl rfl rfl (fun _ _ h _ => h) rfl rfl ?_
  apply Exists.intro
  refine ⟨fun sv w' hw' hfa => ?_, ?_⟩
  · obtain ⟨f0, f1, -⟩ := hfa
    replace f0 : sv 0 = _ := f0
    try dsimp only at f0
    replace f1 : sv 1 = _ := f1
    try dsimp only at f1
    have hk9 := (Ext.refl W).drew.trans hw'; obtain ⟨y1, -⟩ := (hX.ext hk9).walk; obtain ⟨y2, -⟩ := (hY.ext hk9).walk; obtain ⟨y3, -⟩ := (hZ.ext hk9).walk
    refine ⟨rfl, ?_⟩
    simp only [putsL]
    change quietTo _ _ _ _ (Sem.run _ (execOp (Act.eval (Act.put (Act.put _ (some 8) (sv 1)) (some 7) (sv 0))) _) _)
    try simp only [Act.put, List.setIfInBounds_toArray, List.set_cons_succ, List.set_cons_zero]
    simp [go_sem, quietTo, Ext.refl, ↓IntWalk.iteOmega, f0, f1]
    all_goals try simp (disch := omega) only [IntWalk.i64_in]
    all_goals first
      | rfl
      | (exact hpx.out _ (hE.trans ((Ext.refl W).drew.trans hw')))
  refine fac_quiet 3 rfl rfl rfl (fun _ _ h _ => h) rfl rfl ?_
  apply Exists.intro
  refine ⟨fun sv w' hw' hfa => ?_, ?_⟩
  · have hk9 := (Ext.refl W).drew.trans hw'; obtain ⟨y1, -⟩ := (hX.ext hk9).walk; obtain ⟨y2, -⟩ := (hY.ext hk9).walk; obtain ⟨y3, -⟩ := (hZ.ext hk9).walk
    refine ⟨rfl, ?_⟩
    simp only [putsL]
    change quietTo _ _ _ _ (Sem.run _ (execOp (Act.eval _) _) _)
    try simp only [Act.put, List.setIfInBounds_toArray, List.set_cons_succ, List.set_cons_zero]
    simp [go_sem, quietTo, Ext.refl, ↓IntWalk.iteOmega, y1]
    all_goals try simp (disch := omega) only [IntWalk.i64_in]
    all_goals first
      | rfl
  refine fac_quiet 4 rfl rfl rfl (fun _ _ h _ => h) rfl rfl ?_
  apply Exists.intro
  refine ⟨fun sv w' hw' hfa => ?_, ?_⟩
  · have hk9 := (Ext.refl W).drew.trans hw'; obtain ⟨y1, -⟩ := (hX.ext hk9).walk; obtain ⟨y2, -⟩ := (hY.ext hk9).walk; obtain ⟨y3, -⟩ := (hZ.ext hk9).walk
    refine ⟨rfl, ?_⟩
    simp only [putsL]
    change quietTo _ _ _ _ (Sem.run _ (execOp (Act.eval _) _) _)
    try simp only [Act.put, List.setIfInBounds_toArray, List.set_cons_succ, List.set_cons_zero]
    simp [go_sem, quietTo, Ext.refl, ↓IntWalk.iteOmega, y3]
    all_goals try simp (disch := omega) only [IntWalk.i64_in]
    all_goals first
      | rfl
  refine fac_quiet 5 rfl rfl rfl (fun _ _ h _ => h) rfl rfl ?_
  apply Exists.intro
  refine ⟨fun sv w' hw' hfa => ?_, ?_⟩
  · obtain ⟨f3, f4, -⟩ := hfa
    replace f3 : sv 3 = _ := f3
    try dsimp only at f3
    replace f4 : sv 4 = _ := f4
    try dsimp only at f4
    have hk9 := (Ext.refl W).drew.trans hw'; obtain ⟨y1, -⟩ := (hX.ext hk9).walk; obtain ⟨y2, -⟩ := (hY.ext hk9).walk; obtain ⟨y3, -⟩ := (hZ.ext hk9).walk
    refine ⟨rfl, ?_⟩
    simp only [putsL]
    change quietTo _ _ _ _ (Sem.run _ (execOp (Act.eval (Act.put (Act.put _ (some 11) (sv 4)) (some 10) (sv 3))) _) _)
    try simp only [Act.put, List.setIfInBounds_toArray, List.set_cons_succ, List.set_cons_zero]
    simp [go_sem, quietTo, Ext.refl, ↓IntWalk.iteOmega, f3, f4]
    all_goals try simp (disch := omega) only [IntWalk.i64_in]
    all_goals first
      | rfl
      | (exact hpy.out _ (hE.trans ((Ext.refl W).drew.trans hw')))
  refine fac_quiet 6 rfl rfl rfl (fun _ _ h _ => h) rfl rfl ?_
  apply Exists.intro
  refine ⟨fun sv w' hw' hfa => ?_, ?_⟩
  · obtain ⟨_, _, f2, _, _, f5, -⟩ := hfa
    replace f2 : sv 2 = _ := f2
    try dsimp only at f2
    replace f5 : sv 5 = _ := f5
    try dsimp only at f5
    have hk9 := (Ext.refl W).drew.trans hw'; obtain ⟨y1, -⟩ := (hX.ext hk9).walk; obtain ⟨y2, -⟩ := (hY.ext hk9).walk; obtain ⟨y3, -⟩ := (hZ.ext hk9).walk
    refine ⟨rfl, ?_⟩
    simp only [putsL]
    change quietTo _ _ _ _ (Sem.run _ (execOp (Act.eval (Act.put (Act.put (Act.put (Act.put (Act.put (Act.put _ (some 12) (sv 5)) (some 11) (sv 4)) (some 10) (sv 3)) (some 9) (sv 2)) (some 8) (sv 1)) (some 7) (sv 0))) _) _)
    try simp only [Act.put, List.setIfInBounds_toArray, List.set_cons_succ, List.set_cons_zero]
    simp [go_sem, quietTo, Ext.refl, ↓IntWalk.iteOmega, f2, f5, hwr]
    all_goals try simp (disch := omega) only [IntWalk.i64_in]
    all_goals first
      | rfl
  refine fac_quiet 7 rfl rfl rfl (fun _ _ h _ => h) rfl rfl ?_
  apply Exists.intro
  refine ⟨fun sv w' hw' hfa => ?_, ?_⟩
  · obtain ⟨f0, f1, f2, f3, f4, f5, f6, -⟩ := hfa
    replace f0 : sv 0 = _ := f0
    try dsimp only at f0
    replace f1 : sv 1 = _ := f1
    try dsimp only at f1
    replace f2 : sv 2 = _ := f2
    try dsimp only at f2
    replace f3 : sv 3 = _ := f3
    try dsimp only at f3
    replace f4 : sv 4 = _ := f4
    try dsimp only at f4
    replace f5 : sv 5 = _ := f5
    try dsimp only at f5
    replace f6 : sv 6 = _ := f6
    try dsimp only at f6
    have hk9 := (Ext.refl W).drew.trans hw'; obtain ⟨y1, -⟩ := (hX.ext hk9).walk; obtain ⟨y2, -⟩ := (hY.ext hk9).walk; obtain ⟨y3, -⟩ := (hZ.ext hk9).walk
    refine ⟨rfl, ?_⟩
    simp only [putsL]
    change quietTo _ _ _ _ (Sem.run _ (execOp (Act.eval (Act.put (Act.put (Act.put (Act.put (Act.put (Act.put (Act.put _ (some 13) (sv 6)) (some 12) (sv 5)) (some 11) (sv 4)) (some 10) (sv 3)) (some 9) (sv 2)) (some 8) (sv 1)) (some 7) (sv 0))) _) _)
    try simp only [Act.put, List.setIfInBounds_toArray, List.set_cons_succ, List.set_cons_zero]
    simp [go_sem, quietTo, Ext.refl, ↓IntWalk.iteOmega, f6]
    all_goals try simp (disch := omega) only [IntWalk.i64_in]
    all_goals first
      | rfl
      | (exact (in_any _ _ _ _).mono fun _ _ h => ⟨h.1, h.2 ▸ Ext.refl _⟩)
  refine fac_quiet 8 rfl rfl rfl (fun _ _ h _ => h) rfl rfl ?_
  apply Exists.intro
  refine ⟨fun sv w' hw' hfa => ?_, ?_⟩
  · obtain ⟨_, _, _, _, _, _, _, f7, -⟩ := hfa
    replace f7 : sv 7 = _ := f7
    try dsimp only at f7
    refine ⟨rfl, ?_⟩
    simp only [putsL]
    change quietTo _ _ _ _ (Sem.run _ (execOp (Act.eval (Act.put (Act.put (Act.put (Act.put (Act.put (Act.put (Act.put (Act.put _ (some 14) (sv 7)) (some 13) (sv 6)) (some 12) (sv 5)) (some 11) (sv 4)) (some 10) (sv 3)) (some 9) (sv 2)) (some 8) (sv 1)) (some 7) (sv 0))) _) _)
    try simp only [Act.put, List.setIfInBounds_toArray, List.set_cons_succ, List.set_cons_zero]
    simp [go_sem, quietTo, Ext.refl, f7]
    all_goals first
      | rfl
  refine fac_nil fun xq wrq herq hfrq hcrq holdq hapq => ?_
  obtain ⟨f0, f1, f2, f3, f4, f5, f6, f7, f8, -⟩ := hfrq
  replace f0 : xq 0 = _ := f0
  try dsimp only at f0
  replace f1 : xq 1 = _ := f1
  try dsimp only at f1
  replace f2 : xq 2 = _ := f2
  try dsimp only at f2
  replace f3 : xq 3 = _ := f3
  try dsimp only at f3
  replace f4 : xq 4 = _ := f4
  try dsimp only at f4
  replace f5 : xq 5 = _ := f5
  try dsimp only at f5
  replace f6 : xq 6 = _ := f6
  try dsimp only at f6
  replace f7 : xq 7 = _ := f7
  try dsimp only at f7
  replace f8 : xq 8 = _ := f8
  try dsimp only at f8
  change wpList _ _ _ _ (Act.put (Act.put (Act.put (Act.put (Act.put (Act.put (Act.put (Act.put (Act.put _ (some 7) (xq 0)) (some 8) (xq 1)) (some 9) (xq 2)) (some 10) (xq 3)) (some 11) (xq 4)) (some 12) (xq 5)) (some 13) (xq 6)) (some 14) (xq 7)) (some 6) (xq 8)) _
  simp only [putsL, Nat.reduceAdd, List.drop_succ_cons, List.drop_zero, List.drop_nil, Act.put, List.setIfInBounds_toArray, List.set_cons_succ, List.set_cons_zero]
  try simp only [f0, f1, f2, f3, f4, f5, f6, f7, f8]
  clear f0 f1 f2 f3 f4 f5 f6 f7 f8
  clear holdq hapq
  go_wp2
  go_ret
  exact ⟨by first | rfl | simp, hE.trans ((Ext.refl _).drew.trans herq)⟩


theorem height_bound {P : List PersonV} {wide high : List Int} {S : List StandV} {x : StandV} (hok : StandsOk P wide high S) (hx : x ∈ S) : 500 ≤ heightOf P x.name ∧ heightOf P x.name ≤ 2500 := by
  obtain ⟨k, q, hq, hn⟩ := hok.all x hx
  rw [← hn, heightOf_is hok.po hq]
  exact (hok.po.one q (List.mem_of_getElem? hq)).2.2

set_option maxRecDepth 100000 in
set_option maxHeartbeats 1600000 in
theorem rtop_any (pp : Option Addr) (pc : Nat) (P : List PersonV) (wp : Option Addr) (wc : Nat) (wide : List Int) (hp : Option Addr) (hc : Nat) (high : List Int) (lp : Option Addr) (lc : Nat) (S : List StandV) (w : World) (h : PsM w pp pc P wp wc wide hp hc high lp lc S) (hok : StandsOk P wide high S) {x : StandV} (hx : x ∈ S) :
    Calls Tryz.prog 142 #[.slice pp P.length pc, .agg #[.slice wp wide.length wc, .slice hp high.length hc], .agg #[.string x.name, .int .i64 x.row, .int .i64 x.place]] w fun e w' => e = .returned (.int .i64 (topS P high x)) ∧ Ext w w' := by
  obtain ⟨x1, x2, x3, x4⟩ := hok.on x hx
  obtain ⟨r, hr⟩ : ∃ r : Nat, x.row = r := ⟨x.row.toNat, by omega⟩
  have hwh := hok.wh
  obtain ⟨v, hv⟩ := getD_some (rfl : high.length = high.length) (show r < high.length by omega)
  have htop : topS P high x = heightOf P x.name + v := by
    unfold topS
    rw [hr, Int.toNat_natCast, List.getD_eq_getElem?_getD, hv]
    rfl
  clear hwh
  have hb := height_bound hok hx
  have hvb := hok.ho v (List.mem_of_getElem? hv)
  have hper := fun u (hu : Ext w u) => personOf_any pp P.length pc P x.name u (h.per.ext hu).1
  rw [htop, hr]
  rw [perOf_high] at hper
  have hw10 := hok.wo.1
  generalize heightOf P x.name = hh at *
  generalize perOf P x.name = q at *
  rcases (slcC h.hig).2 with ⟨-, e⟩ | ⟨hb9, ho, rfl, hhb, hEh⟩
  · rw [e] at hv; cases hv
  have d0 := hEh.int hv
  have hrI : (r : Int) < high.length := by have := (List.getElem?_eq_some_iff.1 hv).1; omega
  have hwr : IntKind.i64.wrap (hh + v) = hh + v := IntWalk.i64_in _ (by omega)
  have hX : Blk ((w.alloc (.cells #[.slice wp wide.length wc, .slice (some ⟨hb9, ho, none⟩) high.length hc] 29)).alloc (.cells #[.string x.name, .int .i64 r, .int .i64 x.place] 46)) w.heap.size 29 #[.slice wp wide.length wc, .slice (some ⟨hb9, ho, none⟩) high.length hc] := (Blk.new' rfl).alloc _
  have hY : Blk ((w.alloc (.cells #[.slice wp wide.length wc, .slice (some ⟨hb9, ho, none⟩) high.length hc] 29)).alloc (.cells #[.string x.name, .int .i64 r, .int .i64 x.place] 46)) (w.heap.size + 1) 46 #[.string x.name, .int .i64 r, .int .i64 x.place] := Blk.new' (by simp)
  have hE : Ext w ((w.alloc (.cells #[.slice wp wide.length wc, .slice (some ⟨hb9, ho, none⟩) high.length hc] 29)).alloc (.cells #[.string x.name, .int .i64 r, .int .i64 x.place] 46)) := ((Ext.refl _).alloc _).alloc _
  replace hper := Lib.hid hper
  clear h hok hx hv hEh htop hr
  go_enter Tryz.func142, Tryz.ntmps142
  go_upto_region 2 with (go_at_call 172; (with_reducible refine Calls.mono (hper.out _ hE) ?_); rintro e w1 ⟨rfl, hb1⟩)
  have hX2 := (hX.ext hb1).alloc (.cells #[.string q.name, .int .i64 hh, .string q.sect] 59)
  have hY2 := (hY.ext hb1).alloc (.cells #[.string q.name, .int .i64 hh, .string q.sect] 59)
  have hZ2 : Blk (w1.alloc (.cells #[.string q.name, .int .i64 hh, .string q.sect] 59)) w1.heap.size 59 #[.string q.name, .int .i64 hh, .string q.sect] := Blk.new' rfl
  have hE2 := (hE.trans hb1).alloc (.cells #[.string q.name, .int .i64 hh, .string q.sect] 59)
  clear hX hY hE
  generalize w1.alloc (.cells #[.string q.name, .int .i64 hh, .string q.sect] 59) = W at *
  refine wp_region_facts [] [([], false, false), ([0], false, false), ([], false, false), ([2], false, false), ([], false, false), ([4], false, false), ([2, 3, 4, 5], false, false), ([2, 3, 4, 5, 6], false, false), ([0, 1, 2, 3, 4, 5, 6, 7], false, false)] (Ext) Ext (fun _ => True) (by kernel_rfl) (by kernel_rfl) Ext.refl (fun _ _ _ => Ext.trans) (fun _ _ h => h) (fun _ _ h => h.size) (fun _ _ h _ => h) trivial ?_
  dsimp only [List.length_cons, List.length_nil, List.drop_succ_cons, List.drop_zero, List.drop_nil]
  refine fac_quiet 0 rfl rfl rfl (fun _ _ h _ => h) rfl rfl ?_
  apply Exists.intro
  refine ⟨fun sv w' hw' hfa => ?_, ?_⟩
  · refine ⟨rfl, ?_⟩
    simp only [putsL]
    change quietTo _ _ _ _ (Sem.run _ (execOp (Act.eval _) _) _)
    try simp only [Act.put, List.setIfInBounds_toArray, List.set_cons_succ, List.set_cons_zero]
    simp [go_sem, quietTo, Ext.refl]
    all_goals first
      | rfl
  refine fac_quiet 1 rfl rfl rfl (fun _ _ h _ => h) rfl rfl ?_
  apply Exists.intro
  refine ⟨fun sv w' hw' hfa => ?_, ?_⟩
  · obtain ⟨f0, -⟩ := hfa
    replace f0 : sv 0 = _ := f0
    try dsimp only at f0
    have hk9 := (Ext.refl W).drew.trans hw'; obtain ⟨y1, -⟩ := (hX2.ext hk9).walk; obtain ⟨y2, -⟩ := (hY2.ext hk9).walk; obtain ⟨y3, -⟩ := (hZ2.ext hk9).walk; obtain ⟨hc9, hff, hz9⟩ := (hE2.trans hk9).walk; have v1 := (hc9 _ _ hhb).trans d0
    refine ⟨rfl, ?_⟩
    simp only [putsL]
    change quietTo _ _ _ _ (Sem.run _ (execOp (Act.eval (Act.put _ (some 16) (sv 0))) _) _)
    try simp only [Act.put, List.setIfInBounds_toArray, List.set_cons_succ, List.set_cons_zero]
    simp [go_sem, quietTo, Ext.refl, ↓IntWalk.iteOmega, f0, y3]
    all_goals try simp (disch := omega) only [IntWalk.i64_in]
    all_goals first
      | rfl
  refine fac_quiet 2 rfl rfl rfl (fun _ _ h _ => h) rfl rfl ?_
  apply Exists.intro
  refine ⟨fun sv w' hw' hfa => ?_, ?_⟩
  · refine ⟨rfl, ?_⟩
    simp only [putsL]
    change quietTo _ _ _ _ (Sem.run _ (execOp (Act.eval _) _) _)
    try simp only [Act.put, List.setIfInBounds_toArray, List.set_cons_succ, List.set_cons_zero]
    simp [go_sem, quietTo, Ext.refl]
    all_goals first
      | rfl
  refine fac_quiet 3 rfl rfl rfl (fun _ _ h _ => h) rfl rfl ?_
  apply Exists.intro
  refine ⟨fun sv w' hw' hfa => ?_, ?_⟩
  · obtain ⟨f2, -⟩ := hfa
    replace f2 : sv 2 = _ := f2
    try dsimp only at f2
    have hk9 := (Ext.refl W).drew.trans hw'; obtain ⟨y1, -⟩ := (hX2.ext hk9).walk; obtain ⟨y2, -⟩ := (hY2.ext hk9).walk; obtain ⟨y3, -⟩ := (hZ2.ext hk9).walk; obtain ⟨hc9, hff, hz9⟩ := (hE2.trans hk9).walk; have v1 := (hc9 _ _ hhb).trans d0
    refine ⟨rfl, ?_⟩
    simp only [putsL]
    change quietTo _ _ _ _ (Sem.run _ (execOp (Act.eval (Act.put _ (some 18) (sv 2))) _) _)
    try simp only [Act.put, List.setIfInBounds_toArray, List.set_cons_succ, List.set_cons_zero]
    simp [go_sem, quietTo, Ext.refl, ↓IntWalk.iteOmega, f2, y1]
    all_goals try simp (disch := omega) only [IntWalk.i64_in]
    all_goals first
      | rfl
  refine fac_quiet 4 rfl rfl rfl (fun _ _ h _ => h) rfl rfl ?_
  apply Exists.intro
  refine ⟨fun sv w' hw' hfa => ?_, ?_⟩
  · refine ⟨rfl, ?_⟩
    simp only [putsL]
    change quietTo _ _ _ _ (Sem.run _ (execOp (Act.eval _) _) _)
    try simp only [Act.put, List.setIfInBounds_toArray, List.set_cons_succ, List.set_cons_zero]
    simp [go_sem, quietTo, Ext.refl]
    all_goals first
      | rfl
  refine fac_quiet 5 rfl rfl rfl (fun _ _ h _ => h) rfl rfl ?_
  apply Exists.intro
  refine ⟨fun sv w' hw' hfa => ?_, ?_⟩
  · obtain ⟨f4, -⟩ := hfa
    replace f4 : sv 4 = _ := f4
    try dsimp only at f4
    have hk9 := (Ext.refl W).drew.trans hw'; obtain ⟨y1, -⟩ := (hX2.ext hk9).walk; obtain ⟨y2, -⟩ := (hY2.ext hk9).walk; obtain ⟨y3, -⟩ := (hZ2.ext hk9).walk; obtain ⟨hc9, hff, hz9⟩ := (hE2.trans hk9).walk; have v1 := (hc9 _ _ hhb).trans d0
    refine ⟨rfl, ?_⟩
    simp only [putsL]
    change quietTo _ _ _ _ (Sem.run _ (execOp (Act.eval (Act.put _ (some 20) (sv 4))) _) _)
    try simp only [Act.put, List.setIfInBounds_toArray, List.set_cons_succ, List.set_cons_zero]
    simp [go_sem, quietTo, Ext.refl, ↓IntWalk.iteOmega, f4, y2]
    all_goals try simp (disch := omega) only [IntWalk.i64_in]
    all_goals first
      | rfl
  refine fac_quiet 6 rfl rfl rfl (fun _ _ h _ => h) rfl rfl ?_
  apply Exists.intro
  refine ⟨fun sv w' hw' hfa => ?_, ?_⟩
  · obtain ⟨_, f3, _, f5, -⟩ := hfa
    replace f3 : sv 3 = _ := f3
    try dsimp only at f3
    replace f5 : sv 5 = _ := f5
    try dsimp only at f5
    have hk9 := (Ext.refl W).drew.trans hw'; obtain ⟨y1, -⟩ := (hX2.ext hk9).walk; obtain ⟨y2, -⟩ := (hY2.ext hk9).walk; obtain ⟨y3, -⟩ := (hZ2.ext hk9).walk; obtain ⟨hc9, hff, hz9⟩ := (hE2.trans hk9).walk; have v1 := (hc9 _ _ hhb).trans d0
    refine ⟨rfl, ?_⟩
    simp only [putsL]
    change quietTo _ _ _ _ (Sem.run _ (execOp (Act.eval (Act.put (Act.put (Act.put (Act.put _ (some 21) (sv 5)) (some 20) (sv 4)) (some 19) (sv 3)) (some 18) (sv 2))) _) _)
    try simp only [Act.put, List.setIfInBounds_toArray, List.set_cons_succ, List.set_cons_zero]
    simp [go_sem, quietTo, Ext.refl, ↓IntWalk.iteOmega, f3, f5, hrI]
    all_goals try simp (disch := omega) only [IntWalk.i64_in]
    all_goals first
      | rfl
  refine fac_quiet 7 rfl rfl rfl (fun _ _ h _ => h) rfl rfl ?_
  apply Exists.intro
  refine ⟨fun sv w' hw' hfa => ?_, ?_⟩
  · obtain ⟨_, _, _, _, f6, -⟩ := hfa
    replace f6 : sv 6 = _ := f6
    try dsimp only at f6
    have hk9 := (Ext.refl W).drew.trans hw'; obtain ⟨y1, -⟩ := (hX2.ext hk9).walk; obtain ⟨y2, -⟩ := (hY2.ext hk9).walk; obtain ⟨y3, -⟩ := (hZ2.ext hk9).walk; obtain ⟨hc9, hff, hz9⟩ := (hE2.trans hk9).walk; have v1 := (hc9 _ _ hhb).trans d0
    refine ⟨rfl, ?_⟩
    simp only [putsL]
    change quietTo _ _ _ _ (Sem.run _ (execOp (Act.eval (Act.put (Act.put (Act.put (Act.put (Act.put _ (some 22) (sv 6)) (some 21) (sv 5)) (some 20) (sv 4)) (some 19) (sv 3)) (some 18) (sv 2))) _) _)
    try simp only [Act.put, List.setIfInBounds_toArray, List.set_cons_succ, List.set_cons_zero]
    simp [go_sem, quietTo, Ext.refl, ↓IntWalk.iteOmega, f6, v1]
    all_goals try simp (disch := omega) only [IntWalk.i64_in]
    all_goals first
      | rfl
  refine fac_quiet 8 rfl rfl rfl (fun _ _ h _ => h) rfl rfl ?_
  apply Exists.intro
  refine ⟨fun sv w' hw' hfa => ?_, ?_⟩
  · obtain ⟨_, f1, _, _, _, _, _, f7, -⟩ := hfa
    replace f1 : sv 1 = _ := f1
    try dsimp only at f1
    replace f7 : sv 7 = _ := f7
    try dsimp only at f7
    have hk9 := (Ext.refl W).drew.trans hw'; obtain ⟨y1, -⟩ := (hX2.ext hk9).walk; obtain ⟨y2, -⟩ := (hY2.ext hk9).walk; obtain ⟨y3, -⟩ := (hZ2.ext hk9).walk; obtain ⟨hc9, hff, hz9⟩ := (hE2.trans hk9).walk; have v1 := (hc9 _ _ hhb).trans d0
    refine ⟨rfl, ?_⟩
    simp only [putsL]
    change quietTo _ _ _ _ (Sem.run _ (execOp (Act.eval (Act.put (Act.put (Act.put (Act.put (Act.put (Act.put (Act.put (Act.put _ (some 23) (sv 7)) (some 22) (sv 6)) (some 21) (sv 5)) (some 20) (sv 4)) (some 19) (sv 3)) (some 18) (sv 2)) (some 17) (sv 1)) (some 16) (sv 0))) _) _)
    try simp only [Act.put, List.setIfInBounds_toArray, List.set_cons_succ, List.set_cons_zero]
    simp [go_sem, quietTo, Ext.refl, ↓IntWalk.iteOmega, f1, f7, hwr]
    all_goals try simp (disch := omega) only [IntWalk.i64_in]
    all_goals first
      | rfl
  refine fac_nil fun xq wrq herq hfrq hcrq holdq hapq => ?_
  obtain ⟨f0, f1, f2, f3, f4, f5, f6, f7, f8, -⟩ := hfrq
  replace f0 : xq 0 = _ := f0
  try dsimp only at f0
  replace f1 : xq 1 = _ := f1
  try dsimp only at f1
  replace f2 : xq 2 = _ := f2
  try dsimp only at f2
  replace f3 : xq 3 = _ := f3
  try dsimp only at f3
  replace f4 : xq 4 = _ := f4
  try dsimp only at f4
  replace f5 : xq 5 = _ := f5
  try dsimp only at f5
  replace f6 : xq 6 = _ := f6
  try dsimp only at f6
  replace f7 : xq 7 = _ := f7
  try dsimp only at f7
  replace f8 : xq 8 = _ := f8
  try dsimp only at f8
  change wpList _ _ _ _ (Act.put (Act.put (Act.put (Act.put (Act.put (Act.put (Act.put (Act.put (Act.put _ (some 16) (xq 0)) (some 17) (xq 1)) (some 18) (xq 2)) (some 19) (xq 3)) (some 20) (xq 4)) (some 21) (xq 5)) (some 22) (xq 6)) (some 23) (xq 7)) (some 24) (xq 8)) _
  simp only [putsL, Nat.reduceAdd, List.drop_succ_cons, List.drop_zero, List.drop_nil, Act.put, List.setIfInBounds_toArray, List.set_cons_succ, List.set_cons_zero]
  try simp only [f0, f1, f2, f3, f4, f5, f6, f7, f8]
  clear f0 f1 f2 f3 f4 f5 f6 f7 f8
  clear holdq hapq
  go_wp2
  go_ret
  exact ⟨rfl, hE2.trans ((Ext.refl _).drew.trans herq)⟩

set_option maxRecDepth 100000 in
set_option maxHeartbeats 3200000 in
theorem rhides_any (pp : Option Addr) (pc : Nat) (P : List PersonV) (wp : Option Addr) (wc : Nat) (wide : List Int) (hp : Option Addr) (hc : Nat) (high : List Int) (lp : Option Addr) (lc : Nat) (S : List StandV) (w : World) (h : PsM w pp pc P wp wc wide hp hc high lp lc S) (hok : StandsOk P wide high S) {x y : StandV} (hx : x ∈ S) (hy : y ∈ S) :
    Calls Tryz.prog 88 #[.slice pp P.length pc, .agg #[.slice wp wide.length wc, .slice hp high.length hc], .agg #[.string x.name, .int .i64 x.row, .int .i64 x.place], .agg #[.string y.name, .int .i64 y.row, .int .i64 y.place]] w fun e w' => e = .returned (.bool (hidesS P wide high x y)) ∧ Ext w w' := by
  have hnr := fun u (hu : Ext w u) => rnear_any wp wc hp high.length hc wide x y u (h.wid.ext hu) hok.wo (hok.on x hx) (hok.on y hy)
  have ht1 := fun u (hu : Ext w u) => rtop_any pp pc P wp wc wide hp hc high lp lc S u (h.more hu) hok hx
  have ht2 := fun u (hu : Ext w u) => rtop_any pp pc P wp wc wide hp hc high lp lc S u (h.more hu) hok hy
  have hr : hidesS P wide high x y = ((decide (x.row < y.row) && nearS wide x y) && decide (topS P high y ≤ topS P high x)) := rfl
  rw [hr]
  clear hr h hok hx hy
  generalize topS P high x = tx at *
  generalize topS P high y = ty at *
  generalize hnn : nearS wide x y = nn at *
  clear hnn
  have hX : Blk (((w.alloc (.cells #[.slice wp wide.length wc, .slice hp high.length hc] 29)).alloc (.cells #[.string x.name, .int .i64 x.row, .int .i64 x.place] 46)).alloc (.cells #[.string y.name, .int .i64 y.row, .int .i64 y.place] 46)) w.heap.size 29 #[.slice wp wide.length wc, .slice hp high.length hc] := ((Blk.new' rfl).alloc _).alloc _
  have hY : Blk (((w.alloc (.cells #[.slice wp wide.length wc, .slice hp high.length hc] 29)).alloc (.cells #[.string x.name, .int .i64 x.row, .int .i64 x.place] 46)).alloc (.cells #[.string y.name, .int .i64 y.row, .int .i64 y.place] 46)) (w.heap.size + 1) 46 #[.string x.name, .int .i64 x.row, .int .i64 x.place] := (Blk.new' (by simp)).alloc _
  have hZ : Blk (((w.alloc (.cells #[.slice wp wide.length wc, .slice hp high.length hc] 29)).alloc (.cells #[.string x.name, .int .i64 x.row, .int .i64 x.place] 46)).alloc (.cells #[.string y.name, .int .i64 y.row, .int .i64 y.place] 46)) (w.heap.size + 1 + 1) 46 #[.string y.name, .int .i64 y.row, .int .i64 y.place] := Blk.new' (by simp)
  have hE : Ext w (((w.alloc (.cells #[.slice wp wide.length wc, .slice hp high.length hc] 29)).alloc (.cells #[.string x.name, .int .i64 x.row, .int .i64 x.place] 46)).alloc (.cells #[.string y.name, .int .i64 y.row, .int .i64 y.place] 46)) := (((Ext.refl _).alloc _).alloc _).alloc _
  replace ht1 := Lib.hid ht1
  replace ht2 := Lib.hid ht2
  replace hnr := Lib.hid hnr
  go_enter Tryz.func88, Tryz.ntmps88
  go_upto_region 1 with fail
  generalize ((w.alloc (.cells #[.slice wp wide.length wc, .slice hp high.length hc] 29)).alloc (.cells #[.string x.name, .int .i64 x.row, .int .i64 x.place] 46)).alloc (.cells #[.string y.name, .int .i64 y.row, .int .i64 y.place] 46) = W at *
  by_cases hlt : x.row < y.row
  · cases nn
    · skip
      refine wp_region_facts [] [([], false, false), ([0], false, false), ([], false, false), ([2], false, false), ([0, 1, 2, 3], false, false), ([0, 1, 2, 3, 4], false, false), ([0, 1, 2, 3, 4, 5], false, false), ([0, 1, 2, 3, 4, 5], false, false), ([0, 1, 2, 3, 4, 5], false, false), ([0, 1, 2, 3, 4, 5, 6, 7, 8], false, false), ([0, 1, 2, 3, 4, 5, 6, 7, 8, 9], false, false), ([0, 1, 2, 3, 4, 5, 6, 7, 8, 9, 10], false, false), ([0, 1, 2, 3, 4, 5, 6, 7, 8, 9, 10, 11], false, false), ([0, 1, 2, 3, 4, 5, 6, 7, 8, 9, 10, 11], false, false), ([0, 1, 2, 3, 4, 5, 6, 7, 8, 9, 10, 11], false, false), ([0, 1, 2, 3, 4, 5, 6, 7, 8, 9, 10, 11, 12, 13, 14], false, false), ([0, 1, 2, 3, 4, 5, 6, 7, 8, 9, 10, 11], false, false), ([0, 1, 2, 3, 4, 5, 6, 7, 8, 9, 10, 11], false, false), ([0, 1, 2, 3, 4, 5, 6, 7, 8, 9, 10, 11], false, false), ([0, 1, 2, 3, 4, 5, 6, 7, 8, 9, 10, 11, 16, 17, 18], false, false), ([0, 1, 2, 3, 4, 5, 6, 7, 8, 9, 10, 11, 12, 13, 14, 15, 16, 17, 18, 19], false, false), ([0, 1, 2, 3, 4, 5, 6, 7, 8, 9, 10, 11, 12, 13, 14, 15, 16, 17, 18, 19, 20], false, false)] (Ext) Ext (fun _ => True) (by kernel_rfl) (by kernel_rfl) Ext.refl (fun _ _ _ => Ext.trans) (fun _ _ h => h) (fun _ _ h => h.size) (fun _ _ h _ => h) trivial ?_
      dsimp only [List.length_cons, List.length_nil, List.drop_succ_cons, List.drop_zero, List.drop_nil]
      refine fac_quiet 0 rfl rfl rfl (fun _ _ h _ => h) rfl rfl ?_
      apply Exists.intro
      refine ⟨fun sv w' hw' hfa => ?_, ?_⟩
      · refine ⟨rfl, ?_⟩
        simp only [putsL]
        change quietTo _ _ _ _ (Sem.run _ (execOp (Act.eval _) _) _)
        try simp only [Act.put, List.setIfInBounds_toArray, List.set_cons_succ, List.set_cons_zero]
        simp [go_sem, quietTo, Ext.refl]
        all_goals first
          | rfl
      refine fac_quiet 1 rfl rfl rfl (fun _ _ h _ => h) rfl rfl ?_
      apply Exists.intro
      refine ⟨fun sv w' hw' hfa => ?_, ?_⟩
      · obtain ⟨f0, -⟩ := hfa
        replace f0 : sv 0 = _ := f0
        try dsimp only at f0
        have hk9 := (Ext.refl W).drew.trans hw'; obtain ⟨y1, -⟩ := (hX.ext hk9).walk; obtain ⟨y2, -⟩ := (hY.ext hk9).walk; obtain ⟨y3, -⟩ := (hZ.ext hk9).walk
        refine ⟨rfl, ?_⟩
        simp only [putsL]
        change quietTo _ _ _ _ (Sem.run _ (execOp (Act.eval (Act.put _ (some 9) (sv 0))) _) _)
        try simp only [Act.put, List.setIfInBounds_toArray, List.set_cons_succ, List.set_cons_zero]
        simp [go_sem, quietTo, Ext.refl, ↓IntWalk.iteOmega, f0, y2]
        all_goals try simp (disch := omega) only [IntWalk.i64_in]
        all_goals first
          | rfl
      refine fac_quiet 2 rfl rfl rfl (fun _ _ h _ => h) rfl rfl ?_
      apply Exists.intro
      refine ⟨fun sv w' hw' hfa => ?_, ?_⟩
      · refine ⟨rfl, ?_⟩
        simp only [putsL]
        change quietTo _ _ _ _ (Sem.run _ (execOp (Act.eval _) _) _)
        try simp only [Act.put, List.setIfInBounds_toArray, List.set_cons_succ, List.set_cons_zero]
        simp [go_sem, quietTo, Ext.refl]
        all_goals first
          | rfl
      refine fac_quiet 3 rfl rfl rfl (fun _ _ h _ => h) rfl rfl ?_
      apply Exists.intro
      refine ⟨fun sv w' hw' hfa => ?_, ?_⟩
      · obtain ⟨f2, -⟩ := hfa
        replace f2 : sv 2 = _ := f2
        try dsimp only at f2
        have hk9 := (Ext.refl W).drew.trans hw'; obtain ⟨y1, -⟩ := (hX.ext hk9).walk; obtain ⟨y2, -⟩ := (hY.ext hk9).walk; obtain ⟨y3, -⟩ := (hZ.ext hk9).walk
        refine ⟨rfl, ?_⟩
        simp only [putsL]
        change quietTo _ _ _ _ (Sem.run _ (execOp (Act.eval (Act.put _ (some 11) (sv 2))) _) _)
        try simp only [Act.put, List.setIfInBounds_toArray, List.set_cons_succ, List.set_cons_zero]
        simp [go_sem, quietTo, Ext.refl, ↓IntWalk.iteOmega, f2, y3]
        all_goals try simp (disch := omega) only [IntWalk.i64_in]
        all_goals first
          | rfl
      refine fac_quiet 4 rfl rfl rfl (fun _ _ h _ => h) rfl rfl ?_
      apply Exists.intro
      refine ⟨fun sv w' hw' hfa => ?_, ?_⟩
      · obtain ⟨_, f1, _, f3, -⟩ := hfa
        replace f1 : sv 1 = _ := f1
        try dsimp only at f1
        replace f3 : sv 3 = _ := f3
        try dsimp only at f3
        have hk9 := (Ext.refl W).drew.trans hw'; obtain ⟨y1, -⟩ := (hX.ext hk9).walk; obtain ⟨y2, -⟩ := (hY.ext hk9).walk; obtain ⟨y3, -⟩ := (hZ.ext hk9).walk
        refine ⟨rfl, ?_⟩
        simp only [putsL]
        change quietTo _ _ _ _ (Sem.run _ (execOp (Act.eval (Act.put (Act.put (Act.put (Act.put _ (some 12) (sv 3)) (some 11) (sv 2)) (some 10) (sv 1)) (some 9) (sv 0))) _) _)
        try simp only [Act.put, List.setIfInBounds_toArray, List.set_cons_succ, List.set_cons_zero]
        simp [go_sem, quietTo, Ext.refl, ↓IntWalk.iteOmega, f1, f3, hlt]
        all_goals try simp (disch := omega) only [IntWalk.i64_in]
        all_goals first
          | rfl
      refine fac_quiet 5 rfl rfl rfl (fun _ _ h _ => h) rfl rfl ?_
      apply Exists.intro
      refine ⟨fun sv w' hw' hfa => ?_, ?_⟩
      · obtain ⟨_, _, _, _, f4, -⟩ := hfa
        replace f4 : sv 4 = _ := f4
        try dsimp only at f4
        refine ⟨rfl, ?_⟩
        simp only [putsL]
        change quietTo _ _ _ _ (Sem.run _ (execOp (Act.eval (Act.put (Act.put (Act.put (Act.put (Act.put _ (some 13) (sv 4)) (some 12) (sv 3)) (some 11) (sv 2)) (some 10) (sv 1)) (some 9) (sv 0))) _) _)
        try simp only [Act.put, List.setIfInBounds_toArray, List.set_cons_succ, List.set_cons_zero]
        simp [go_sem, quietTo, Ext.refl, f4]
        all_goals first
          | rfl
      refine fac_quiet 6 rfl rfl rfl (fun _ _ h _ => h) rfl rfl ?_
      apply Exists.intro
      refine ⟨fun sv w' hw' hfa => ?_, ?_⟩
      · obtain ⟨_, _, _, _, _, f5, -⟩ := hfa
        replace f5 : sv 5 = _ := f5
        try dsimp only at f5
        have hk9 := (Ext.refl W).drew.trans hw'; obtain ⟨y1, -⟩ := (hX.ext hk9).walk; obtain ⟨y2, -⟩ := (hY.ext hk9).walk; obtain ⟨y3, -⟩ := (hZ.ext hk9).walk
        refine ⟨by simp [Region.wanted, yielded, putsL, Act.put, f5], ?_⟩
        simp only [putsL]
        change quietTo _ _ _ _ (Sem.run _ (execOp (Act.eval (Act.put (Act.put (Act.put (Act.put (Act.put (Act.put _ (some 14) (sv 5)) (some 13) (sv 4)) (some 12) (sv 3)) (some 11) (sv 2)) (some 10) (sv 1)) (some 9) (sv 0))) _) _)
        try simp only [Act.put, List.setIfInBounds_toArray, List.set_cons_succ, List.set_cons_zero]
        simp [go_sem, quietTo, Ext.refl, ↓IntWalk.iteOmega, f5, y1]
        all_goals try simp (disch := omega) only [IntWalk.i64_in]
        all_goals first
          | rfl
      refine fac_quiet 7 rfl rfl rfl (fun _ _ h _ => h) rfl rfl ?_
      apply Exists.intro
      refine ⟨fun sv w' hw' hfa => ?_, ?_⟩
      · obtain ⟨_, _, _, _, _, f5, -⟩ := hfa
        replace f5 : sv 5 = _ := f5
        try dsimp only at f5
        have hk9 := (Ext.refl W).drew.trans hw'; obtain ⟨y1, -⟩ := (hX.ext hk9).walk; obtain ⟨y2, -⟩ := (hY.ext hk9).walk; obtain ⟨y3, -⟩ := (hZ.ext hk9).walk
        refine ⟨by simp [Region.wanted, yielded, putsL, Act.put, f5], ?_⟩
        simp only [putsL]
        change quietTo _ _ _ _ (Sem.run _ (execOp (Act.eval (Act.put (Act.put (Act.put (Act.put (Act.put (Act.put _ (some 14) (sv 5)) (some 13) (sv 4)) (some 12) (sv 3)) (some 11) (sv 2)) (some 10) (sv 1)) (some 9) (sv 0))) _) _)
        try simp only [Act.put, List.setIfInBounds_toArray, List.set_cons_succ, List.set_cons_zero]
        simp [go_sem, quietTo, Ext.refl, ↓IntWalk.iteOmega, f5, y2]
        all_goals try simp (disch := omega) only [IntWalk.i64_in]
        all_goals first
          | rfl
      refine fac_quiet 8 rfl rfl rfl (fun _ _ h _ => h) rfl rfl ?_
      apply Exists.intro
      refine ⟨fun sv w' hw' hfa => ?_, ?_⟩
      · obtain ⟨_, _, _, _, _, f5, -⟩ := hfa
        replace f5 : sv 5 = _ := f5
        try dsimp only at f5
        have hk9 := (Ext.refl W).drew.trans hw'; obtain ⟨y1, -⟩ := (hX.ext hk9).walk; obtain ⟨y2, -⟩ := (hY.ext hk9).walk; obtain ⟨y3, -⟩ := (hZ.ext hk9).walk
        refine ⟨by simp [Region.wanted, yielded, putsL, Act.put, f5], ?_⟩
        simp only [putsL]
        change quietTo _ _ _ _ (Sem.run _ (execOp (Act.eval (Act.put (Act.put (Act.put (Act.put (Act.put (Act.put _ (some 14) (sv 5)) (some 13) (sv 4)) (some 12) (sv 3)) (some 11) (sv 2)) (some 10) (sv 1)) (some 9) (sv 0))) _) _)
        try simp only [Act.put, List.setIfInBounds_toArray, List.set_cons_succ, List.set_cons_zero]
        simp [go_sem, quietTo, Ext.refl, ↓IntWalk.iteOmega, f5, y3]
        all_goals try simp (disch := omega) only [IntWalk.i64_in]
        all_goals first
          | rfl
      refine fac_quiet 9 rfl rfl rfl (fun _ _ h _ => h) rfl rfl ?_
      apply Exists.intro
      refine ⟨fun sv w' hw' hfa => ?_, ?_⟩
      · obtain ⟨f0, f1, f2, f3, f4, f5, f6, f7, f8, -⟩ := hfa
        replace f0 : sv 0 = _ := f0
        try dsimp only at f0
        replace f1 : sv 1 = _ := f1
        try dsimp only at f1
        replace f2 : sv 2 = _ := f2
        try dsimp only at f2
        replace f3 : sv 3 = _ := f3
        try dsimp only at f3
        replace f4 : sv 4 = _ := f4
        try dsimp only at f4
        replace f5 : sv 5 = _ := f5
        try dsimp only at f5
        replace f6 : sv 6 = _ := f6
        try dsimp only at f6
        replace f7 : sv 7 = _ := f7
        try dsimp only at f7
        replace f8 : sv 8 = _ := f8
        try dsimp only at f8
        have hk9 := (Ext.refl W).drew.trans hw'; obtain ⟨y1, -⟩ := (hX.ext hk9).walk; obtain ⟨y2, -⟩ := (hY.ext hk9).walk; obtain ⟨y3, -⟩ := (hZ.ext hk9).walk
        refine ⟨by simp [Region.wanted, yielded, putsL, Act.put, f5, f6, f7, f8], ?_⟩
        simp only [putsL]
        change quietTo _ _ _ _ (Sem.run _ (execOp (Act.eval (Act.put (Act.put (Act.put (Act.put (Act.put (Act.put (Act.put (Act.put (Act.put _ (some 17) (sv 8)) (some 16) (sv 7)) (some 15) (sv 6)) (some 14) (sv 5)) (some 13) (sv 4)) (some 12) (sv 3)) (some 11) (sv 2)) (some 10) (sv 1)) (some 9) (sv 0))) _) _)
        try simp only [Act.put, List.setIfInBounds_toArray, List.set_cons_succ, List.set_cons_zero]
        simp [go_sem, quietTo, Ext.refl, ↓IntWalk.iteOmega, f5, f6, f7, f8]
        all_goals try simp (disch := omega) only [IntWalk.i64_in]
        all_goals first
          | rfl
          | (exact hnr.out _ (hE.trans hk9))
      refine fac_quiet 10 rfl rfl rfl (fun _ _ h _ => h) rfl rfl ?_
      apply Exists.intro
      refine ⟨fun sv w' hw' hfa => ?_, ?_⟩
      · obtain ⟨_, _, _, _, _, f5, _, _, _, f9, -⟩ := hfa
        replace f5 : sv 5 = _ := f5
        try dsimp only at f5
        replace f9 : sv 9 = _ := f9
        try dsimp only at f9
        refine ⟨rfl, ?_⟩
        simp only [putsL]
        change quietTo _ _ _ _ (Sem.run _ (execOp (Act.eval (Act.put (Act.put (Act.put (Act.put (Act.put (Act.put (Act.put (Act.put (Act.put (Act.put _ (some 18) (sv 9)) (some 17) (sv 8)) (some 16) (sv 7)) (some 15) (sv 6)) (some 14) (sv 5)) (some 13) (sv 4)) (some 12) (sv 3)) (some 11) (sv 2)) (some 10) (sv 1)) (some 9) (sv 0))) _) _)
        try simp only [Act.put, List.setIfInBounds_toArray, List.set_cons_succ, List.set_cons_zero]
        simp [go_sem, quietTo, Ext.refl, ↓IntWalk.iteOmega, f5, f9]
        all_goals try simp (disch := omega) only [IntWalk.i64_in]
        all_goals first
          | rfl
      refine fac_quiet 11 rfl rfl rfl (fun _ _ h _ => h) rfl rfl ?_
      apply Exists.intro
      refine ⟨fun sv w' hw' hfa => ?_, ?_⟩
      · obtain ⟨_, _, _, _, _, _, _, _, _, _, f10, -⟩ := hfa
        replace f10 : sv 10 = _ := f10
        try dsimp only at f10
        refine ⟨rfl, ?_⟩
        simp only [putsL]
        change quietTo _ _ _ _ (Sem.run _ (execOp (Act.eval (Act.put (Act.put (Act.put (Act.put (Act.put (Act.put (Act.put (Act.put (Act.put (Act.put (Act.put _ (some 19) (sv 10)) (some 18) (sv 9)) (some 17) (sv 8)) (some 16) (sv 7)) (some 15) (sv 6)) (some 14) (sv 5)) (some 13) (sv 4)) (some 12) (sv 3)) (some 11) (sv 2)) (some 10) (sv 1)) (some 9) (sv 0))) _) _)
        try simp only [Act.put, List.setIfInBounds_toArray, List.set_cons_succ, List.set_cons_zero]
        simp [go_sem, quietTo, Ext.refl, f10]
        all_goals first
          | rfl
      refine fac_skip 12 rfl rfl rfl (fun _ _ h _ => h) Ext.refl ?_ ?_
      · intro sv w' hw' hfa
        obtain ⟨f0, f1, f2, f3, f4, f5, f6, f7, f8, f9, f10, f11, -⟩ := hfa
        replace f0 : sv 0 = _ := f0
        try dsimp only at f0
        replace f1 : sv 1 = _ := f1
        try dsimp only at f1
        replace f2 : sv 2 = _ := f2
        try dsimp only at f2
        replace f3 : sv 3 = _ := f3
        try dsimp only at f3
        replace f4 : sv 4 = _ := f4
        try dsimp only at f4
        replace f5 : sv 5 = _ := f5
        try dsimp only at f5
        replace f6 : sv 6 = _ := f6
        try dsimp only at f6
        replace f7 : sv 7 = _ := f7
        try dsimp only at f7
        replace f8 : sv 8 = _ := f8
        try dsimp only at f8
        replace f9 : sv 9 = _ := f9
        try dsimp only at f9
        replace f10 : sv 10 = _ := f10
        try dsimp only at f10
        replace f11 : sv 11 = _ := f11
        try dsimp only at f11
        simp [Region.wanted, yielded, putsL, Act.put, f11]
      refine fac_skip 13 rfl rfl rfl (fun _ _ h _ => h) Ext.refl ?_ ?_
      · intro sv w' hw' hfa
        obtain ⟨f0, f1, f2, f3, f4, f5, f6, f7, f8, f9, f10, f11, -⟩ := hfa
        replace f0 : sv 0 = _ := f0
        try dsimp only at f0
        replace f1 : sv 1 = _ := f1
        try dsimp only at f1
        replace f2 : sv 2 = _ := f2
        try dsimp only at f2
        replace f3 : sv 3 = _ := f3
        try dsimp only at f3
        replace f4 : sv 4 = _ := f4
        try dsimp only at f4
        replace f5 : sv 5 = _ := f5
        try dsimp only at f5
        replace f6 : sv 6 = _ := f6
        try dsimp only at f6
        replace f7 : sv 7 = _ := f7
        try dsimp only at f7
        replace f8 : sv 8 = _ := f8
        try dsimp only at f8
        replace f9 : sv 9 = _ := f9
        try dsimp only at f9
        replace f10 : sv 10 = _ := f10
        try dsimp only at f10
        replace f11 : sv 11 = _ := f11
        try dsimp only at f11
        simp [Region.wanted, yielded, putsL, Act.put, f11]
      refine fac_skip 14 rfl rfl rfl (fun _ _ h _ => h) Ext.refl ?_ ?_
      · intro sv w' hw' hfa
        obtain ⟨f0, f1, f2, f3, f4, f5, f6, f7, f8, f9, f10, f11, -⟩ := hfa
        replace f0 : sv 0 = _ := f0
        try dsimp only at f0
        replace f1 : sv 1 = _ := f1
        try dsimp only at f1
        replace f2 : sv 2 = _ := f2
        try dsimp only at f2
        replace f3 : sv 3 = _ := f3
        try dsimp only at f3
        replace f4 : sv 4 = _ := f4
        try dsimp only at f4
        replace f5 : sv 5 = _ := f5
        try dsimp only at f5
        replace f6 : sv 6 = _ := f6
        try dsimp only at f6
        replace f7 : sv 7 = _ := f7
        try dsimp only at f7
        replace f8 : sv 8 = _ := f8
        try dsimp only at f8
        replace f9 : sv 9 = _ := f9
        try dsimp only at f9
        replace f10 : sv 10 = _ := f10
        try dsimp only at f10
        replace f11 : sv 11 = _ := f11
        try dsimp only at f11
        simp [Region.wanted, yielded, putsL, Act.put, f11]
      refine fac_skip 15 rfl rfl rfl (fun _ _ h _ => h) Ext.refl ?_ ?_
      · intro sv w' hw' hfa
        obtain ⟨f0, f1, f2, f3, f4, f5, f6, f7, f8, f9, f10, f11, f12, f13, f14, -⟩ := hfa
        replace f0 : sv 0 = _ := f0
        try dsimp only at f0
        replace f1 : sv 1 = _ := f1
        try dsimp only at f1
        replace f2 : sv 2 = _ := f2
        try dsimp only at f2
        replace f3 : sv 3 = _ := f3
        try dsimp only at f3
        replace f4 : sv 4 = _ := f4
        try dsimp only at f4
        replace f5 : sv 5 = _ := f5
        try dsimp only at f5
        replace f6 : sv 6 = _ := f6
        try dsimp only at f6
        replace f7 : sv 7 = _ := f7
        try dsimp only at f7
        replace f8 : sv 8 = _ := f8
        try dsimp only at f8
        replace f9 : sv 9 = _ := f9
        try dsimp only at f9
        replace f10 : sv 10 = _ := f10
        try dsimp only at f10
        replace f11 : sv 11 = _ := f11
        try dsimp only at f11
        replace f12 : sv 12 = _ := f12
        try dsimp only at f12
        replace f13 : sv 13 = _ := f13
        try dsimp only at f13
        replace f14 : sv 14 = _ := f14
        try dsimp only at f14
        simp [Region.wanted, yielded, putsL, Act.put, f11, f12, f13, f14]
      refine fac_skip 16 rfl rfl rfl (fun _ _ h _ => h) Ext.refl ?_ ?_
      · intro sv w' hw' hfa
        obtain ⟨f0, f1, f2, f3, f4, f5, f6, f7, f8, f9, f10, f11, -⟩ := hfa
        replace f0 : sv 0 = _ := f0
        try dsimp only at f0
        replace f1 : sv 1 = _ := f1
        try dsimp only at f1
        replace f2 : sv 2 = _ := f2
        try dsimp only at f2
        replace f3 : sv 3 = _ := f3
        try dsimp only at f3
        replace f4 : sv 4 = _ := f4
        try dsimp only at f4
        replace f5 : sv 5 = _ := f5
        try dsimp only at f5
        replace f6 : sv 6 = _ := f6
        try dsimp only at f6
        replace f7 : sv 7 = _ := f7
        try dsimp only at f7
        replace f8 : sv 8 = _ := f8
        try dsimp only at f8
        replace f9 : sv 9 = _ := f9
        try dsimp only at f9
        replace f10 : sv 10 = _ := f10
        try dsimp only at f10
        replace f11 : sv 11 = _ := f11
        try dsimp only at f11
        simp [Region.wanted, yielded, putsL, Act.put, f11]
      refine fac_skip 17 rfl rfl rfl (fun _ _ h _ => h) Ext.refl ?_ ?_
      · intro sv w' hw' hfa
        obtain ⟨f0, f1, f2, f3, f4, f5, f6, f7, f8, f9, f10, f11, -⟩ := hfa
        replace f0 : sv 0 = _ := f0
        try dsimp only at f0
        replace f1 : sv 1 = _ := f1
        try dsimp only at f1
        replace f2 : sv 2 = _ := f2
        try dsimp only at f2
        replace f3 : sv 3 = _ := f3
        try dsimp only at f3
        replace f4 : sv 4 = _ := f4
        try dsimp only at f4
        replace f5 : sv 5 = _ := f5
        try dsimp only at f5
        replace f6 : sv 6 = _ := f6
        try dsimp only at f6
        replace f7 : sv 7 = _ := f7
        try dsimp only at f7
        replace f8 : sv 8 = _ := f8
        try dsimp only at f8
        replace f9 : sv 9 = _ := f9
        try dsimp only at f9
        replace f10 : sv 10 = _ := f10
        try dsimp only at f10
        replace f11 : sv 11 = _ := f11
        try dsimp only at f11
        simp [Region.wanted, yielded, putsL, Act.put, f11]
      refine fac_skip 18 rfl rfl rfl (fun _ _ h _ => h) Ext.refl ?_ ?_
      · intro sv w' hw' hfa
        obtain ⟨f0, f1, f2, f3, f4, f5, f6, f7, f8, f9, f10, f11, -⟩ := hfa
        replace f0 : sv 0 = _ := f0
        try dsimp only at f0
        replace f1 : sv 1 = _ := f1
        try dsimp only at f1
        replace f2 : sv 2 = _ := f2
        try dsimp only at f2
        replace f3 : sv 3 = _ := f3
        try dsimp only at f3
        replace f4 : sv 4 = _ := f4
        try dsimp only at f4
        replace f5 : sv 5 = _ := f5
        try dsimp only at f5
        replace f6 : sv 6 = _ := f6
        try dsimp only at f6
        replace f7 : sv 7 = _ := f7
        try dsimp only at f7
        replace f8 : sv 8 = _ := f8
        try dsimp only at f8
        replace f9 : sv 9 = _ := f9
        try dsimp only at f9
        replace f10 : sv 10 = _ := f10
        try dsimp only at f10
        replace f11 : sv 11 = _ := f11
        try dsimp only at f11
        simp [Region.wanted, yielded, putsL, Act.put, f11]
      refine fac_skip 19 rfl rfl rfl (fun _ _ h _ => h) Ext.refl ?_ ?_
      · intro sv w' hw' hfa
        obtain ⟨f0, f1, f2, f3, f4, f5, f6, f7, f8, f9, f10, f11, f16, f17, f18, -⟩ := hfa
        replace f0 : sv 0 = _ := f0
        try dsimp only at f0
        replace f1 : sv 1 = _ := f1
        try dsimp only at f1
        replace f2 : sv 2 = _ := f2
        try dsimp only at f2
        replace f3 : sv 3 = _ := f3
        try dsimp only at f3
        replace f4 : sv 4 = _ := f4
        try dsimp only at f4
        replace f5 : sv 5 = _ := f5
        try dsimp only at f5
        replace f6 : sv 6 = _ := f6
        try dsimp only at f6
        replace f7 : sv 7 = _ := f7
        try dsimp only at f7
        replace f8 : sv 8 = _ := f8
        try dsimp only at f8
        replace f9 : sv 9 = _ := f9
        try dsimp only at f9
        replace f10 : sv 10 = _ := f10
        try dsimp only at f10
        replace f11 : sv 11 = _ := f11
        try dsimp only at f11
        replace f16 : sv 16 = _ := f16
        try dsimp only at f16
        replace f17 : sv 17 = _ := f17
        try dsimp only at f17
        replace f18 : sv 18 = _ := f18
        try dsimp only at f18
        simp [Region.wanted, yielded, putsL, Act.put, f11, f16, f17, f18]
      refine fac_skip 20 rfl rfl rfl (fun _ _ h _ => h) Ext.refl ?_ ?_
      · intro sv w' hw' hfa
        obtain ⟨f0, f1, f2, f3, f4, f5, f6, f7, f8, f9, f10, f11, f12, f13, f14, f15, f16, f17, f18, f19, -⟩ := hfa
        replace f0 : sv 0 = _ := f0
        try dsimp only at f0
        replace f1 : sv 1 = _ := f1
        try dsimp only at f1
        replace f2 : sv 2 = _ := f2
        try dsimp only at f2
        replace f3 : sv 3 = _ := f3
        try dsimp only at f3
        replace f4 : sv 4 = _ := f4
        try dsimp only at f4
        replace f5 : sv 5 = _ := f5
        try dsimp only at f5
        replace f6 : sv 6 = _ := f6
        try dsimp only at f6
        replace f7 : sv 7 = _ := f7
        try dsimp only at f7
        replace f8 : sv 8 = _ := f8
        try dsimp only at f8
        replace f9 : sv 9 = _ := f9
        try dsimp only at f9
        replace f10 : sv 10 = _ := f10
        try dsimp only at f10
        replace f11 : sv 11 = _ := f11
        try dsimp only at f11
        replace f12 : sv 12 = _ := f12
        try dsimp only at f12
        replace f13 : sv 13 = _ := f13
        try dsimp only at f13
        replace f14 : sv 14 = _ := f14
        try dsimp only at f14
        replace f15 : sv 15 = _ := f15
        try dsimp only at f15
        replace f16 : sv 16 = _ := f16
        try dsimp only at f16
        replace f17 : sv 17 = _ := f17
        try dsimp only at f17
        replace f18 : sv 18 = _ := f18
        try dsimp only at f18
        replace f19 : sv 19 = _ := f19
        try dsimp only at f19
        simp [Region.wanted, yielded, putsL, Act.put, f11, f15, f19]
      refine fac_quiet 21 rfl rfl rfl (fun _ _ h _ => h) rfl rfl ?_
      apply Exists.intro
      refine ⟨fun sv w' hw' hfa => ?_, ?_⟩
      · obtain ⟨_, _, _, _, _, _, _, _, _, _, _, f11, _, _, _, _, _, _, _, _, f20, -⟩ := hfa
        replace f11 : sv 11 = _ := f11
        try dsimp only at f11
        replace f20 : sv 20 = _ := f20
        try dsimp only at f20
        refine ⟨rfl, ?_⟩
        simp only [putsL]
        change quietTo _ _ _ _ (Sem.run _ (execOp (Act.eval (Act.put (Act.put (Act.put (Act.put (Act.put (Act.put (Act.put (Act.put (Act.put (Act.put (Act.put (Act.put (Act.put (Act.put (Act.put (Act.put (Act.put (Act.put (Act.put (Act.put (Act.put _ (some 29) (sv 20)) (some 28) (sv 19)) (some 27) (sv 18)) (some 26) (sv 17)) (some 25) (sv 16)) (some 24) (sv 15)) (some 23) (sv 14)) (some 22) (sv 13)) (some 21) (sv 12)) (some 20) (sv 11)) (some 19) (sv 10)) (some 18) (sv 9)) (some 17) (sv 8)) (some 16) (sv 7)) (some 15) (sv 6)) (some 14) (sv 5)) (some 13) (sv 4)) (some 12) (sv 3)) (some 11) (sv 2)) (some 10) (sv 1)) (some 9) (sv 0))) _) _)
        try simp only [Act.put, List.setIfInBounds_toArray, List.set_cons_succ, List.set_cons_zero]
        simp [go_sem, quietTo, Ext.refl, ↓IntWalk.iteOmega, f11, f20]
        all_goals try simp (disch := omega) only [IntWalk.i64_in]
        all_goals first
          | rfl
      refine fac_nil fun xq wrq herq hfrq hcrq holdq hapq => ?_
      obtain ⟨f0, f1, f2, f3, f4, f5, f6, f7, f8, f9, f10, f11, f12, f13, f14, f15, f16, f17, f18, f19, f20, f21, -⟩ := hfrq
      replace f0 : xq 0 = _ := f0
      try dsimp only at f0
      replace f1 : xq 1 = _ := f1
      try dsimp only at f1
      replace f2 : xq 2 = _ := f2
      try dsimp only at f2
      replace f3 : xq 3 = _ := f3
      try dsimp only at f3
      replace f4 : xq 4 = _ := f4
      try dsimp only at f4
      replace f5 : xq 5 = _ := f5
      try dsimp only at f5
      replace f6 : xq 6 = _ := f6
      try dsimp only at f6
      replace f7 : xq 7 = _ := f7
      try dsimp only at f7
      replace f8 : xq 8 = _ := f8
      try dsimp only at f8
      replace f9 : xq 9 = _ := f9
      try dsimp only at f9
      replace f10 : xq 10 = _ := f10
      try dsimp only at f10
      replace f11 : xq 11 = _ := f11
      try dsimp only at f11
      replace f12 : xq 12 = _ := f12
      try dsimp only at f12
      replace f13 : xq 13 = _ := f13
      try dsimp only at f13
      replace f14 : xq 14 = _ := f14
      try dsimp only at f14
      replace f15 : xq 15 = _ := f15
      try dsimp only at f15
      replace f16 : xq 16 = _ := f16
      try dsimp only at f16
      replace f17 : xq 17 = _ := f17
      try dsimp only at f17
      replace f18 : xq 18 = _ := f18
      try dsimp only at f18
      replace f19 : xq 19 = _ := f19
      try dsimp only at f19
      replace f20 : xq 20 = _ := f20
      try dsimp only at f20
      replace f21 : xq 21 = _ := f21
      try dsimp only at f21
      change wpList _ _ _ _ (Act.put (Act.put (Act.put (Act.put (Act.put (Act.put (Act.put (Act.put (Act.put (Act.put (Act.put (Act.put (Act.put (Act.put (Act.put (Act.put (Act.put (Act.put (Act.put (Act.put (Act.put (Act.put _ (some 9) (xq 0)) (some 10) (xq 1)) (some 11) (xq 2)) (some 12) (xq 3)) (some 13) (xq 4)) (some 14) (xq 5)) (some 15) (xq 6)) (some 16) (xq 7)) (some 17) (xq 8)) (some 18) (xq 9)) (some 19) (xq 10)) (some 20) (xq 11)) (some 21) (xq 12)) (some 22) (xq 13)) (some 23) (xq 14)) (some 24) (xq 15)) (some 25) (xq 16)) (some 26) (xq 17)) (some 27) (xq 18)) (some 28) (xq 19)) (some 29) (xq 20)) (some 30) (xq 21)) _
      simp only [putsL, Nat.reduceAdd, List.drop_succ_cons, List.drop_zero, List.drop_nil, Act.put, List.setIfInBounds_toArray, List.set_cons_succ, List.set_cons_zero]
      try simp only [f0, f1, f2, f3, f4, f5, f6, f7, f8, f9, f10, f11, f12, f13, f14, f15, f16, f17, f18, f19, f20, f21]
      clear f0 f1 f2 f3 f4 f5 f6 f7 f8 f9 f10 f11 f12 f13 f14 f15 f16 f17 f18 f19 f20 f21
      clear holdq hapq
      go_wp2
      go_ret
      exact ⟨ret_bool (by simp), hE.trans ((Ext.refl _).drew.trans herq)⟩
    · by_cases hge : ty ≤ tx
      all_goals
        refine wp_region_facts [] [([], false, false), ([0], false, false), ([], false, false), ([2], false, false), ([0, 1, 2, 3], false, false), ([0, 1, 2, 3, 4], false, false), ([0, 1, 2, 3, 4, 5], false, false), ([0, 1, 2, 3, 4, 5], false, false), ([0, 1, 2, 3, 4, 5], false, false), ([0, 1, 2, 3, 4, 5, 6, 7, 8], false, false), ([0, 1, 2, 3, 4, 5, 6, 7, 8, 9], false, false), ([0, 1, 2, 3, 4, 5, 6, 7, 8, 9, 10], false, false), ([0, 1, 2, 3, 4, 5, 6, 7, 8, 9, 10, 11], false, false), ([0, 1, 2, 3, 4, 5, 6, 7, 8, 9, 10, 11], false, false), ([0, 1, 2, 3, 4, 5, 6, 7, 8, 9, 10, 11], false, false), ([0, 1, 2, 3, 4, 5, 6, 7, 8, 9, 10, 11, 12, 13, 14], false, false), ([0, 1, 2, 3, 4, 5, 6, 7, 8, 9, 10, 11], false, false), ([0, 1, 2, 3, 4, 5, 6, 7, 8, 9, 10, 11], false, false), ([0, 1, 2, 3, 4, 5, 6, 7, 8, 9, 10, 11], false, false), ([0, 1, 2, 3, 4, 5, 6, 7, 8, 9, 10, 11, 16, 17, 18], false, false), ([0, 1, 2, 3, 4, 5, 6, 7, 8, 9, 10, 11, 12, 13, 14, 15, 16, 17, 18, 19], false, false), ([0, 1, 2, 3, 4, 5, 6, 7, 8, 9, 10, 11, 12, 13, 14, 15, 16, 17, 18, 19, 20], false, false)] (Ext) Ext (fun _ => True) (by kernel_rfl) (by kernel_rfl) Ext.refl (fun _ _ _ => Ext.trans) (fun _ _ h => h) (fun _ _ h => h.size) (fun _ _ h _ => h) trivial ?_
        dsimp only [List.length_cons, List.length_nil, List.drop_succ_cons, List.drop_zero, List.drop_nil]
        refine fac_quiet 0 rfl rfl rfl (fun _ _ h _ => h) rfl rfl ?_
        apply Exists.intro
        refine ⟨fun sv w' hw' hfa => ?_, ?_⟩
        · refine ⟨rfl, ?_⟩
          simp only [putsL]
          change quietTo _ _ _ _ (Sem.run _ (execOp (Act.eval _) _) _)
          try simp only [Act.put, List.setIfInBounds_toArray, List.set_cons_succ, List.set_cons_zero]
          simp [go_sem, quietTo, Ext.refl]
          all_goals first
            | rfl
        refine fac_quiet 1 rfl rfl rfl (fun _ _ h _ => h) rfl rfl ?_
        apply Exists.intro
        refine ⟨fun sv w' hw' hfa => ?_, ?_⟩
        · obtain ⟨f0, -⟩ := hfa
          replace f0 : sv 0 = _ := f0
          try dsimp only at f0
          have hk9 := (Ext.refl W).drew.trans hw'; obtain ⟨y1, -⟩ := (hX.ext hk9).walk; obtain ⟨y2, -⟩ := (hY.ext hk9).walk; obtain ⟨y3, -⟩ := (hZ.ext hk9).walk
          refine ⟨rfl, ?_⟩
          simp only [putsL]
          change quietTo _ _ _ _ (Sem.run _ (execOp (Act.eval (Act.put _ (some 9) (sv 0))) _) _)
          try simp only [Act.put, List.setIfInBounds_toArray, List.set_cons_succ, List.set_cons_zero]
          simp [go_sem, quietTo, Ext.refl, ↓IntWalk.iteOmega, f0, y2]
          all_goals try simp (disch := omega) only [IntWalk.i64_in]
          all_goals first
            | rfl
        refine fac_quiet 2 rfl rfl rfl (fun _ _ h _ => h) rfl rfl ?_
        apply Exists.intro
        refine ⟨fun sv w' hw' hfa => ?_, ?_⟩
        · refine ⟨rfl, ?_⟩
          simp only [putsL]
          change quietTo _ _ _ _ (Sem.run _ (execOp (Act.eval _) _) _)
          try simp only [Act.put, List.setIfInBounds_toArray, List.set_cons_succ, List.set_cons_zero]
          simp [go_sem, quietTo, Ext.refl]
          all_goals first
            | rfl
        refine fac_quiet 3 rfl rfl rfl (fun _ _ h _ => h) rfl rfl ?_
        apply Exists.intro
        refine ⟨fun sv w' hw' hfa => ?_, ?_⟩
        · obtain ⟨f2, -⟩ := hfa
          replace f2 : sv 2 = _ := f2
          try dsimp only at f2
          have hk9 := (Ext.refl W).drew.trans hw'; obtain ⟨y1, -⟩ := (hX.ext hk9).walk; obtain ⟨y2, -⟩ := (hY.ext hk9).walk; obtain ⟨y3, -⟩ := (hZ.ext hk9).walk
          refine ⟨rfl, ?_⟩
          simp only [putsL]
          change quietTo _ _ _ _ (Sem.run _ (execOp (Act.eval (Act.put _ (some 11) (sv 2))) _) _)
          try simp only [Act.put, List.setIfInBounds_toArray, List.set_cons_succ, List.set_cons_zero]
          simp [go_sem, quietTo, Ext.refl, ↓IntWalk.iteOmega, f2, y3]
          all_goals try simp (disch := omega) only [IntWalk.i64_in]
          all_goals first
            | rfl
        refine fac_quiet 4 rfl rfl rfl (fun _ _ h _ => h) rfl rfl ?_
        apply Exists.intro
        refine ⟨fun sv w' hw' hfa => ?_, ?_⟩
        · obtain ⟨_, f1, _, f3, -⟩ := hfa
          replace f1 : sv 1 = _ := f1
          try dsimp only at f1
          replace f3 : sv 3 = _ := f3
          try dsimp only at f3
          have hk9 := (Ext.refl W).drew.trans hw'; obtain ⟨y1, -⟩ := (hX.ext hk9).walk; obtain ⟨y2, -⟩ := (hY.ext hk9).walk; obtain ⟨y3, -⟩ := (hZ.ext hk9).walk
          refine ⟨rfl, ?_⟩
          simp only [putsL]
          change quietTo _ _ _ _ (Sem.run _ (execOp (Act.eval (Act.put (Act.put (Act.put (Act.put _ (some 12) (sv 3)) (some 11) (sv 2)) (some 10) (sv 1)) (some 9) (sv 0))) _) _)
          try simp only [Act.put, List.setIfInBounds_toArray, List.set_cons_succ, List.set_cons_zero]
          simp [go_sem, quietTo, Ext.refl, ↓IntWalk.iteOmega, f1, f3, hlt]
          all_goals try simp (disch := omega) only [IntWalk.i64_in]
          all_goals first
            | rfl
        refine fac_quiet 5 rfl rfl rfl (fun _ _ h _ => h) rfl rfl ?_
        apply Exists.intro
        refine ⟨fun sv w' hw' hfa => ?_, ?_⟩
        · obtain ⟨_, _, _, _, f4, -⟩ := hfa
          replace f4 : sv 4 = _ := f4
          try dsimp only at f4
          refine ⟨rfl, ?_⟩
          simp only [putsL]
          change quietTo _ _ _ _ (Sem.run _ (execOp (Act.eval (Act.put (Act.put (Act.put (Act.put (Act.put _ (some 13) (sv 4)) (some 12) (sv 3)) (some 11) (sv 2)) (some 10) (sv 1)) (some 9) (sv 0))) _) _)
          try simp only [Act.put, List.setIfInBounds_toArray, List.set_cons_succ, List.set_cons_zero]
          simp [go_sem, quietTo, Ext.refl, f4]
          all_goals first
            | rfl
        refine fac_quiet 6 rfl rfl rfl (fun _ _ h _ => h) rfl rfl ?_
        apply Exists.intro
        refine ⟨fun sv w' hw' hfa => ?_, ?_⟩
        · obtain ⟨_, _, _, _, _, f5, -⟩ := hfa
          replace f5 : sv 5 = _ := f5
          try dsimp only at f5
          have hk9 := (Ext.refl W).drew.trans hw'; obtain ⟨y1, -⟩ := (hX.ext hk9).walk; obtain ⟨y2, -⟩ := (hY.ext hk9).walk; obtain ⟨y3, -⟩ := (hZ.ext hk9).walk
          refine ⟨by simp [Region.wanted, yielded, putsL, Act.put, f5], ?_⟩
          simp only [putsL]
          change quietTo _ _ _ _ (Sem.run _ (execOp (Act.eval (Act.put (Act.put (Act.put (Act.put (Act.put (Act.put _ (some 14) (sv 5)) (some 13) (sv 4)) (some 12) (sv 3)) (some 11) (sv 2)) (some 10) (sv 1)) (some 9) (sv 0))) _) _)
          try simp only [Act.put, List.setIfInBounds_toArray, List.set_cons_succ, List.set_cons_zero]
          simp [go_sem, quietTo, Ext.refl, ↓IntWalk.iteOmega, f5, y1]
          all_goals try simp (disch := omega) only [IntWalk.i64_in]
          all_goals first
            | rfl
        refine fac_quiet 7 rfl rfl rfl (fun _ _ h _ => h) rfl rfl ?_
        apply Exists.intro
        refine ⟨fun sv w' hw' hfa => ?_, ?_⟩
        · obtain ⟨_, _, _, _, _, f5, -⟩ := hfa
          replace f5 : sv 5 = _ := f5
          try dsimp only at f5
          have hk9 := (Ext.refl W).drew.trans hw'; obtain ⟨y1, -⟩ := (hX.ext hk9).walk; obtain ⟨y2, -⟩ := (hY.ext hk9).walk; obtain ⟨y3, -⟩ := (hZ.ext hk9).walk
          refine ⟨by simp [Region.wanted, yielded, putsL, Act.put, f5], ?_⟩
          simp only [putsL]
          change quietTo _ _ _ _ (Sem.run _ (execOp (Act.eval (Act.put (Act.put (Act.put (Act.put (Act.put (Act.put _ (some 14) (sv 5)) (some 13) (sv 4)) (some 12) (sv 3)) (some 11) (sv 2)) (some 10) (sv 1)) (some 9) (sv 0))) _) _)
          try simp only [Act.put, List.setIfInBounds_toArray, List.set_cons_succ, List.set_cons_zero]
          simp [go_sem, quietTo, Ext.refl, ↓IntWalk.iteOmega, f5, y2]
          all_goals try simp (disch := omega) only [IntWalk.i64_in]
          all_goals first
            | rfl
        refine fac_quiet 8 rfl rfl rfl (fun _ _ h _ => h) rfl rfl ?_
        apply Exists.intro
        refine ⟨fun sv w' hw' hfa => ?_, ?_⟩
        · obtain ⟨_, _, _, _, _, f5, -⟩ := hfa
          replace f5 : sv 5 = _ := f5
          try dsimp only at f5
          have hk9 := (Ext.refl W).drew.trans hw'; obtain ⟨y1, -⟩ := (hX.ext hk9).walk; obtain ⟨y2, -⟩ := (hY.ext hk9).walk; obtain ⟨y3, -⟩ := (hZ.ext hk9).walk
          refine ⟨by simp [Region.wanted, yielded, putsL, Act.put, f5], ?_⟩
          simp only [putsL]
          change quietTo _ _ _ _ (Sem.run _ (execOp (Act.eval (Act.put (Act.put (Act.put (Act.put (Act.put (Act.put _ (some 14) (sv 5)) (some 13) (sv 4)) (some 12) (sv 3)) (some 11) (sv 2)) (some 10) (sv 1)) (some 9) (sv 0))) _) _)
          try simp only [Act.put, List.setIfInBounds_toArray, List.set_cons_succ, List.set_cons_zero]
          simp [go_sem, quietTo, Ext.refl, ↓IntWalk.iteOmega, f5, y3]
          all_goals try simp (disch := omega) only [IntWalk.i64_in]
          all_goals first
            | rfl
        refine fac_quiet 9 rfl rfl rfl (fun _ _ h _ => h) rfl rfl ?_
        apply Exists.intro
        refine ⟨fun sv w' hw' hfa => ?_, ?_⟩
        · obtain ⟨f0, f1, f2, f3, f4, f5, f6, f7, f8, -⟩ := hfa
          replace f0 : sv 0 = _ := f0
          try dsimp only at f0
          replace f1 : sv 1 = _ := f1
          try dsimp only at f1
          replace f2 : sv 2 = _ := f2
          try dsimp only at f2
          replace f3 : sv 3 = _ := f3
          try dsimp only at f3
          replace f4 : sv 4 = _ := f4
          try dsimp only at f4
          replace f5 : sv 5 = _ := f5
          try dsimp only at f5
          replace f6 : sv 6 = _ := f6
          try dsimp only at f6
          replace f7 : sv 7 = _ := f7
          try dsimp only at f7
          replace f8 : sv 8 = _ := f8
          try dsimp only at f8
          have hk9 := (Ext.refl W).drew.trans hw'; obtain ⟨y1, -⟩ := (hX.ext hk9).walk; obtain ⟨y2, -⟩ := (hY.ext hk9).walk; obtain ⟨y3, -⟩ := (hZ.ext hk9).walk
          refine ⟨by simp [Region.wanted, yielded, putsL, Act.put, f5, f6, f7, f8], ?_⟩
          simp only [putsL]
          change quietTo _ _ _ _ (Sem.run _ (execOp (Act.eval (Act.put (Act.put (Act.put (Act.put (Act.put (Act.put (Act.put (Act.put (Act.put _ (some 17) (sv 8)) (some 16) (sv 7)) (some 15) (sv 6)) (some 14) (sv 5)) (some 13) (sv 4)) (some 12) (sv 3)) (some 11) (sv 2)) (some 10) (sv 1)) (some 9) (sv 0))) _) _)
          try simp only [Act.put, List.setIfInBounds_toArray, List.set_cons_succ, List.set_cons_zero]
          simp [go_sem, quietTo, Ext.refl, ↓IntWalk.iteOmega, f5, f6, f7, f8]
          all_goals try simp (disch := omega) only [IntWalk.i64_in]
          all_goals first
            | rfl
            | (exact hnr.out _ (hE.trans hk9))
        refine fac_quiet 10 rfl rfl rfl (fun _ _ h _ => h) rfl rfl ?_
        apply Exists.intro
        refine ⟨fun sv w' hw' hfa => ?_, ?_⟩
        · obtain ⟨_, _, _, _, _, f5, _, _, _, f9, -⟩ := hfa
          replace f5 : sv 5 = _ := f5
          try dsimp only at f5
          replace f9 : sv 9 = _ := f9
          try dsimp only at f9
          refine ⟨rfl, ?_⟩
          simp only [putsL]
          change quietTo _ _ _ _ (Sem.run _ (execOp (Act.eval (Act.put (Act.put (Act.put (Act.put (Act.put (Act.put (Act.put (Act.put (Act.put (Act.put _ (some 18) (sv 9)) (some 17) (sv 8)) (some 16) (sv 7)) (some 15) (sv 6)) (some 14) (sv 5)) (some 13) (sv 4)) (some 12) (sv 3)) (some 11) (sv 2)) (some 10) (sv 1)) (some 9) (sv 0))) _) _)
          try simp only [Act.put, List.setIfInBounds_toArray, List.set_cons_succ, List.set_cons_zero]
          simp [go_sem, quietTo, Ext.refl, ↓IntWalk.iteOmega, f5, f9]
          all_goals try simp (disch := omega) only [IntWalk.i64_in]
          all_goals first
            | rfl
        refine fac_quiet 11 rfl rfl rfl (fun _ _ h _ => h) rfl rfl ?_
        apply Exists.intro
        refine ⟨fun sv w' hw' hfa => ?_, ?_⟩
        · obtain ⟨_, _, _, _, _, _, _, _, _, _, f10, -⟩ := hfa
          replace f10 : sv 10 = _ := f10
          try dsimp only at f10
          refine ⟨rfl, ?_⟩
          simp only [putsL]
          change quietTo _ _ _ _ (Sem.run _ (execOp (Act.eval (Act.put (Act.put (Act.put (Act.put (Act.put (Act.put (Act.put (Act.put (Act.put (Act.put (Act.put _ (some 19) (sv 10)) (some 18) (sv 9)) (some 17) (sv 8)) (some 16) (sv 7)) (some 15) (sv 6)) (some 14) (sv 5)) (some 13) (sv 4)) (some 12) (sv 3)) (some 11) (sv 2)) (some 10) (sv 1)) (some 9) (sv 0))) _) _)
          try simp only [Act.put, List.setIfInBounds_toArray, List.set_cons_succ, List.set_cons_zero]
          simp [go_sem, quietTo, Ext.refl, f10]
          all_goals first
            | rfl
        refine fac_quiet 12 rfl rfl rfl (fun _ _ h _ => h) rfl rfl ?_
        apply Exists.intro
        refine ⟨fun sv w' hw' hfa => ?_, ?_⟩
        · obtain ⟨_, _, _, _, _, _, _, _, _, _, _, f11, -⟩ := hfa
          replace f11 : sv 11 = _ := f11
          try dsimp only at f11
          refine ⟨by simp [Region.wanted, yielded, putsL, Act.put, f11], ?_⟩
          simp only [putsL]
          change quietTo _ _ _ _ (Sem.run _ (execOp (Act.eval (Act.put (Act.put (Act.put (Act.put (Act.put (Act.put (Act.put (Act.put (Act.put (Act.put (Act.put (Act.put _ (some 20) (sv 11)) (some 19) (sv 10)) (some 18) (sv 9)) (some 17) (sv 8)) (some 16) (sv 7)) (some 15) (sv 6)) (some 14) (sv 5)) (some 13) (sv 4)) (some 12) (sv 3)) (some 11) (sv 2)) (some 10) (sv 1)) (some 9) (sv 0))) _) _)
          try simp only [Act.put, List.setIfInBounds_toArray, List.set_cons_succ, List.set_cons_zero]
          simp [go_sem, quietTo, Ext.refl, f11]
          all_goals first
            | rfl
        refine fac_quiet 13 rfl rfl rfl (fun _ _ h _ => h) rfl rfl ?_
        apply Exists.intro
        refine ⟨fun sv w' hw' hfa => ?_, ?_⟩
        · obtain ⟨_, _, _, _, _, _, _, _, _, _, _, f11, -⟩ := hfa
          replace f11 : sv 11 = _ := f11
          try dsimp only at f11
          have hk9 := (Ext.refl W).drew.trans hw'; obtain ⟨y1, -⟩ := (hX.ext hk9).walk; obtain ⟨y2, -⟩ := (hY.ext hk9).walk; obtain ⟨y3, -⟩ := (hZ.ext hk9).walk
          refine ⟨by simp [Region.wanted, yielded, putsL, Act.put, f11], ?_⟩
          simp only [putsL]
          change quietTo _ _ _ _ (Sem.run _ (execOp (Act.eval (Act.put (Act.put (Act.put (Act.put (Act.put (Act.put (Act.put (Act.put (Act.put (Act.put (Act.put (Act.put _ (some 20) (sv 11)) (some 19) (sv 10)) (some 18) (sv 9)) (some 17) (sv 8)) (some 16) (sv 7)) (some 15) (sv 6)) (some 14) (sv 5)) (some 13) (sv 4)) (some 12) (sv 3)) (some 11) (sv 2)) (some 10) (sv 1)) (some 9) (sv 0))) _) _)
          try simp only [Act.put, List.setIfInBounds_toArray, List.set_cons_succ, List.set_cons_zero]
          simp [go_sem, quietTo, Ext.refl, ↓IntWalk.iteOmega, f11, y1]
          all_goals try simp (disch := omega) only [IntWalk.i64_in]
          all_goals first
            | rfl
        refine fac_quiet 14 rfl rfl rfl (fun _ _ h _ => h) rfl rfl ?_
        apply Exists.intro
        refine ⟨fun sv w' hw' hfa => ?_, ?_⟩
        · obtain ⟨_, _, _, _, _, _, _, _, _, _, _, f11, -⟩ := hfa
          replace f11 : sv 11 = _ := f11
          try dsimp only at f11
          have hk9 := (Ext.refl W).drew.trans hw'; obtain ⟨y1, -⟩ := (hX.ext hk9).walk; obtain ⟨y2, -⟩ := (hY.ext hk9).walk; obtain ⟨y3, -⟩ := (hZ.ext hk9).walk
          refine ⟨by simp [Region.wanted, yielded, putsL, Act.put, f11], ?_⟩
          simp only [putsL]
          change quietTo _ _ _ _ (Sem.run _ (execOp (Act.eval (Act.put (Act.put (Act.put (Act.put (Act.put (Act.put (Act.put (Act.put (Act.put (Act.put (Act.put (Act.put _ (some 20) (sv 11)) (some 19) (sv 10)) (some 18) (sv 9)) (some 17) (sv 8)) (some 16) (sv 7)) (some 15) (sv 6)) (some 14) (sv 5)) (some 13) (sv 4)) (some 12) (sv 3)) (some 11) (sv 2)) (some 10) (sv 1)) (some 9) (sv 0))) _) _)
          try simp only [Act.put, List.setIfInBounds_toArray, List.set_cons_succ, List.set_cons_zero]
          simp [go_sem, quietTo, Ext.refl, ↓IntWalk.iteOmega, f11, y2]
          all_goals try simp (disch := omega) only [IntWalk.i64_in]
          all_goals first
            | rfl
        refine fac_quiet 15 rfl rfl rfl (fun _ _ h _ => h) rfl rfl ?_
        apply Exists.intro
        refine ⟨fun sv w' hw' hfa => ?_, ?_⟩
        · obtain ⟨f0, f1, f2, f3, f4, f5, f6, f7, f8, f9, f10, f11, f12, f13, f14, -⟩ := hfa
          replace f0 : sv 0 = _ := f0
          try dsimp only at f0
          replace f1 : sv 1 = _ := f1
          try dsimp only at f1
          replace f2 : sv 2 = _ := f2
          try dsimp only at f2
          replace f3 : sv 3 = _ := f3
          try dsimp only at f3
          replace f4 : sv 4 = _ := f4
          try dsimp only at f4
          replace f5 : sv 5 = _ := f5
          try dsimp only at f5
          replace f6 : sv 6 = _ := f6
          try dsimp only at f6
          replace f7 : sv 7 = _ := f7
          try dsimp only at f7
          replace f8 : sv 8 = _ := f8
          try dsimp only at f8
          replace f9 : sv 9 = _ := f9
          try dsimp only at f9
          replace f10 : sv 10 = _ := f10
          try dsimp only at f10
          replace f11 : sv 11 = _ := f11
          try dsimp only at f11
          replace f12 : sv 12 = _ := f12
          try dsimp only at f12
          replace f13 : sv 13 = _ := f13
          try dsimp only at f13
          replace f14 : sv 14 = _ := f14
          try dsimp only at f14
          have hk9 := (Ext.refl W).drew.trans hw'; obtain ⟨y1, -⟩ := (hX.ext hk9).walk; obtain ⟨y2, -⟩ := (hY.ext hk9).walk; obtain ⟨y3, -⟩ := (hZ.ext hk9).walk
          refine ⟨by simp [Region.wanted, yielded, putsL, Act.put, f11, f12, f13, f14], ?_⟩
          simp only [putsL]
          change quietTo _ _ _ _ (Sem.run _ (execOp (Act.eval (Act.put (Act.put (Act.put (Act.put (Act.put (Act.put (Act.put (Act.put (Act.put (Act.put (Act.put (Act.put (Act.put (Act.put (Act.put _ (some 23) (sv 14)) (some 22) (sv 13)) (some 21) (sv 12)) (some 20) (sv 11)) (some 19) (sv 10)) (some 18) (sv 9)) (some 17) (sv 8)) (some 16) (sv 7)) (some 15) (sv 6)) (some 14) (sv 5)) (some 13) (sv 4)) (some 12) (sv 3)) (some 11) (sv 2)) (some 10) (sv 1)) (some 9) (sv 0))) _) _)
          try simp only [Act.put, List.setIfInBounds_toArray, List.set_cons_succ, List.set_cons_zero]
          simp [go_sem, quietTo, Ext.refl, ↓IntWalk.iteOmega, f11, f12, f13, f14]
          all_goals try simp (disch := omega) only [IntWalk.i64_in]
          all_goals first
            | rfl
            | (exact ht1.out _ (hE.trans hk9))
        refine fac_quiet 16 rfl rfl rfl (fun _ _ h _ => h) rfl rfl ?_
        apply Exists.intro
        refine ⟨fun sv w' hw' hfa => ?_, ?_⟩
        · obtain ⟨_, _, _, _, _, _, _, _, _, _, _, f11, -⟩ := hfa
          replace f11 : sv 11 = _ := f11
          try dsimp only at f11
          refine ⟨by simp [Region.wanted, yielded, putsL, Act.put, f11], ?_⟩
          simp only [putsL]
          change quietTo _ _ _ _ (Sem.run _ (execOp (Act.eval (Act.put (Act.put (Act.put (Act.put (Act.put (Act.put (Act.put (Act.put (Act.put (Act.put (Act.put (Act.put _ (some 20) (sv 11)) (some 19) (sv 10)) (some 18) (sv 9)) (some 17) (sv 8)) (some 16) (sv 7)) (some 15) (sv 6)) (some 14) (sv 5)) (some 13) (sv 4)) (some 12) (sv 3)) (some 11) (sv 2)) (some 10) (sv 1)) (some 9) (sv 0))) _) _)
          try simp only [Act.put, List.setIfInBounds_toArray, List.set_cons_succ, List.set_cons_zero]
          simp [go_sem, quietTo, Ext.refl, f11]
          all_goals first
            | rfl
        refine fac_quiet 17 rfl rfl rfl (fun _ _ h _ => h) rfl rfl ?_
        apply Exists.intro
        refine ⟨fun sv w' hw' hfa => ?_, ?_⟩
        · obtain ⟨_, _, _, _, _, _, _, _, _, _, _, f11, -⟩ := hfa
          replace f11 : sv 11 = _ := f11
          try dsimp only at f11
          have hk9 := (Ext.refl W).drew.trans hw'; obtain ⟨y1, -⟩ := (hX.ext hk9).walk; obtain ⟨y2, -⟩ := (hY.ext hk9).walk; obtain ⟨y3, -⟩ := (hZ.ext hk9).walk
          refine ⟨by simp [Region.wanted, yielded, putsL, Act.put, f11], ?_⟩
          simp only [putsL]
          change quietTo _ _ _ _ (Sem.run _ (execOp (Act.eval (Act.put (Act.put (Act.put (Act.put (Act.put (Act.put (Act.put (Act.put (Act.put (Act.put (Act.put (Act.put _ (some 20) (sv 11)) (some 19) (sv 10)) (some 18) (sv 9)) (some 17) (sv 8)) (some 16) (sv 7)) (some 15) (sv 6)) (some 14) (sv 5)) (some 13) (sv 4)) (some 12) (sv 3)) (some 11) (sv 2)) (some 10) (sv 1)) (some 9) (sv 0))) _) _)
          try simp only [Act.put, List.setIfInBounds_toArray, List.set_cons_succ, List.set_cons_zero]
          simp [go_sem, quietTo, Ext.refl, ↓IntWalk.iteOmega, f11, y1]
          all_goals try simp (disch := omega) only [IntWalk.i64_in]
          all_goals first
            | rfl
        refine fac_quiet 18 rfl rfl rfl (fun _ _ h _ => h) rfl rfl ?_
        apply Exists.intro
        refine ⟨fun sv w' hw' hfa => ?_, ?_⟩
        · obtain ⟨_, _, _, _, _, _, _, _, _, _, _, f11, -⟩ := hfa
          replace f11 : sv 11 = _ := f11
          try dsimp only at f11
          have hk9 := (Ext.refl W).drew.trans hw'; obtain ⟨y1, -⟩ := (hX.ext hk9).walk; obtain ⟨y2, -⟩ := (hY.ext hk9).walk; obtain ⟨y3, -⟩ := (hZ.ext hk9).walk
          refine ⟨by simp [Region.wanted, yielded, putsL, Act.put, f11], ?_⟩
          simp only [putsL]
          change quietTo _ _ _ _ (Sem.run _ (execOp (Act.eval (Act.put (Act.put (Act.put (Act.put (Act.put (Act.put (Act.put (Act.put (Act.put (Act.put (Act.put (Act.put _ (some 20) (sv 11)) (some 19) (sv 10)) (some 18) (sv 9)) (some 17) (sv 8)) (some 16) (sv 7)) (some 15) (sv 6)) (some 14) (sv 5)) (some 13) (sv 4)) (some 12) (sv 3)) (some 11) (sv 2)) (some 10) (sv 1)) (some 9) (sv 0))) _) _)
          try simp only [Act.put, List.setIfInBounds_toArray, List.set_cons_succ, List.set_cons_zero]
          simp [go_sem, quietTo, Ext.refl, ↓IntWalk.iteOmega, f11, y3]
          all_goals try simp (disch := omega) only [IntWalk.i64_in]
          all_goals first
            | rfl
        refine fac_quiet 19 rfl rfl rfl (fun _ _ h _ => h) rfl rfl ?_
        apply Exists.intro
        refine ⟨fun sv w' hw' hfa => ?_, ?_⟩
        · obtain ⟨f0, f1, f2, f3, f4, f5, f6, f7, f8, f9, f10, f11, f16, f17, f18, -⟩ := hfa
          replace f0 : sv 0 = _ := f0
          try dsimp only at f0
          replace f1 : sv 1 = _ := f1
          try dsimp only at f1
          replace f2 : sv 2 = _ := f2
          try dsimp only at f2
          replace f3 : sv 3 = _ := f3
          try dsimp only at f3
          replace f4 : sv 4 = _ := f4
          try dsimp only at f4
          replace f5 : sv 5 = _ := f5
          try dsimp only at f5
          replace f6 : sv 6 = _ := f6
          try dsimp only at f6
          replace f7 : sv 7 = _ := f7
          try dsimp only at f7
          replace f8 : sv 8 = _ := f8
          try dsimp only at f8
          replace f9 : sv 9 = _ := f9
          try dsimp only at f9
          replace f10 : sv 10 = _ := f10
          try dsimp only at f10
          replace f11 : sv 11 = _ := f11
          try dsimp only at f11
          replace f16 : sv 16 = _ := f16
          try dsimp only at f16
          replace f17 : sv 17 = _ := f17
          try dsimp only at f17
          replace f18 : sv 18 = _ := f18
          try dsimp only at f18
          have hk9 := (Ext.refl W).drew.trans hw'; obtain ⟨y1, -⟩ := (hX.ext hk9).walk; obtain ⟨y2, -⟩ := (hY.ext hk9).walk; obtain ⟨y3, -⟩ := (hZ.ext hk9).walk
          refine ⟨by simp [Region.wanted, yielded, putsL, Act.put, f11, f16, f17, f18], ?_⟩
          simp only [putsL]
          change quietTo _ _ _ _ (Sem.run _ (execOp (Act.eval (Act.put (Act.put (Act.put (Act.put (Act.put (Act.put (Act.put (Act.put (Act.put (Act.put (Act.put (Act.put (Act.put (Act.put (Act.put _ (some 27) (sv 18)) (some 26) (sv 17)) (some 25) (sv 16)) (some 20) (sv 11)) (some 19) (sv 10)) (some 18) (sv 9)) (some 17) (sv 8)) (some 16) (sv 7)) (some 15) (sv 6)) (some 14) (sv 5)) (some 13) (sv 4)) (some 12) (sv 3)) (some 11) (sv 2)) (some 10) (sv 1)) (some 9) (sv 0))) _) _)
          try simp only [Act.put, List.setIfInBounds_toArray, List.set_cons_succ, List.set_cons_zero]
          simp [go_sem, quietTo, Ext.refl, ↓IntWalk.iteOmega, f11, f16, f17, f18]
          all_goals try simp (disch := omega) only [IntWalk.i64_in]
          all_goals first
            | rfl
            | (exact ht2.out _ (hE.trans hk9))
        refine fac_quiet 20 rfl rfl rfl (fun _ _ h _ => h) rfl rfl ?_
        apply Exists.intro
        refine ⟨fun sv w' hw' hfa => ?_, ?_⟩
        · obtain ⟨_, _, _, _, _, _, _, _, _, _, _, f11, _, _, _, f15, _, _, _, f19, -⟩ := hfa
          replace f11 : sv 11 = _ := f11
          try dsimp only at f11
          replace f15 : sv 15 = _ := f15
          try dsimp only at f15
          replace f19 : sv 19 = _ := f19
          try dsimp only at f19
          have hk9 := (Ext.refl W).drew.trans hw'; obtain ⟨y1, -⟩ := (hX.ext hk9).walk; obtain ⟨y2, -⟩ := (hY.ext hk9).walk; obtain ⟨y3, -⟩ := (hZ.ext hk9).walk
          refine ⟨by simp [Region.wanted, yielded, putsL, Act.put, f11, f15, f19], ?_⟩
          simp only [putsL]
          change quietTo _ _ _ _ (Sem.run _ (execOp (Act.eval (Act.put (Act.put (Act.put (Act.put (Act.put (Act.put (Act.put (Act.put (Act.put (Act.put (Act.put (Act.put (Act.put (Act.put (Act.put (Act.put (Act.put (Act.put (Act.put (Act.put _ (some 28) (sv 19)) (some 27) (sv 18)) (some 26) (sv 17)) (some 25) (sv 16)) (some 24) (sv 15)) (some 23) (sv 14)) (some 22) (sv 13)) (some 21) (sv 12)) (some 20) (sv 11)) (some 19) (sv 10)) (some 18) (sv 9)) (some 17) (sv 8)) (some 16) (sv 7)) (some 15) (sv 6)) (some 14) (sv 5)) (some 13) (sv 4)) (some 12) (sv 3)) (some 11) (sv 2)) (some 10) (sv 1)) (some 9) (sv 0))) _) _)
          try simp only [Act.put, List.setIfInBounds_toArray, List.set_cons_succ, List.set_cons_zero]
          simp [go_sem, quietTo, Ext.refl, ↓IntWalk.iteOmega, f11, f15, f19, hge]
          all_goals try simp (disch := omega) only [IntWalk.i64_in]
          all_goals first
            | rfl
        refine fac_quiet 21 rfl rfl rfl (fun _ _ h _ => h) rfl rfl ?_
        apply Exists.intro
        refine ⟨fun sv w' hw' hfa => ?_, ?_⟩
        · obtain ⟨_, _, _, _, _, _, _, _, _, _, _, f11, _, _, _, _, _, _, _, _, f20, -⟩ := hfa
          replace f11 : sv 11 = _ := f11
          try dsimp only at f11
          replace f20 : sv 20 = _ := f20
          try dsimp only at f20
          refine ⟨rfl, ?_⟩
          simp only [putsL]
          change quietTo _ _ _ _ (Sem.run _ (execOp (Act.eval (Act.put (Act.put (Act.put (Act.put (Act.put (Act.put (Act.put (Act.put (Act.put (Act.put (Act.put (Act.put (Act.put (Act.put (Act.put (Act.put (Act.put (Act.put (Act.put (Act.put (Act.put _ (some 29) (sv 20)) (some 28) (sv 19)) (some 27) (sv 18)) (some 26) (sv 17)) (some 25) (sv 16)) (some 24) (sv 15)) (some 23) (sv 14)) (some 22) (sv 13)) (some 21) (sv 12)) (some 20) (sv 11)) (some 19) (sv 10)) (some 18) (sv 9)) (some 17) (sv 8)) (some 16) (sv 7)) (some 15) (sv 6)) (some 14) (sv 5)) (some 13) (sv 4)) (some 12) (sv 3)) (some 11) (sv 2)) (some 10) (sv 1)) (some 9) (sv 0))) _) _)
          try simp only [Act.put, List.setIfInBounds_toArray, List.set_cons_succ, List.set_cons_zero]
          simp [go_sem, quietTo, Ext.refl, ↓IntWalk.iteOmega, f11, f20]
          all_goals try simp (disch := omega) only [IntWalk.i64_in]
          all_goals first
            | rfl
        refine fac_nil fun xq wrq herq hfrq hcrq holdq hapq => ?_
        obtain ⟨f0, f1, f2, f3, f4, f5, f6, f7, f8, f9, f10, f11, f12, f13, f14, f15, f16, f17, f18, f19, f20, f21, -⟩ := hfrq
        replace f0 : xq 0 = _ := f0
        try dsimp only at f0
        replace f1 : xq 1 = _ := f1
        try dsimp only at f1
        replace f2 : xq 2 = _ := f2
        try dsimp only at f2
        replace f3 : xq 3 = _ := f3
        try dsimp only at f3
        replace f4 : xq 4 = _ := f4
        try dsimp only at f4
        replace f5 : xq 5 = _ := f5
        try dsimp only at f5
        replace f6 : xq 6 = _ := f6
        try dsimp only at f6
        replace f7 : xq 7 = _ := f7
        try dsimp only at f7
        replace f8 : xq 8 = _ := f8
        try dsimp only at f8
        replace f9 : xq 9 = _ := f9
        try dsimp only at f9
        replace f10 : xq 10 = _ := f10
        try dsimp only at f10
        replace f11 : xq 11 = _ := f11
        try dsimp only at f11
        replace f12 : xq 12 = _ := f12
        try dsimp only at f12
        replace f13 : xq 13 = _ := f13
        try dsimp only at f13
        replace f14 : xq 14 = _ := f14
        try dsimp only at f14
        replace f15 : xq 15 = _ := f15
        try dsimp only at f15
        replace f16 : xq 16 = _ := f16
        try dsimp only at f16
        replace f17 : xq 17 = _ := f17
        try dsimp only at f17
        replace f18 : xq 18 = _ := f18
        try dsimp only at f18
        replace f19 : xq 19 = _ := f19
        try dsimp only at f19
        replace f20 : xq 20 = _ := f20
        try dsimp only at f20
        replace f21 : xq 21 = _ := f21
        try dsimp only at f21
        change wpList _ _ _ _ (Act.put (Act.put (Act.put (Act.put (Act.put (Act.put (Act.put (Act.put (Act.put (Act.put (Act.put (Act.put (Act.put (Act.put (Act.put (Act.put (Act.put (Act.put (Act.put (Act.put (Act.put (Act.put _ (some 9) (xq 0)) (some 10) (xq 1)) (some 11) (xq 2)) (some 12) (xq 3)) (some 13) (xq 4)) (some 14) (xq 5)) (some 15) (xq 6)) (some 16) (xq 7)) (some 17) (xq 8)) (some 18) (xq 9)) (some 19) (xq 10)) (some 20) (xq 11)) (some 21) (xq 12)) (some 22) (xq 13)) (some 23) (xq 14)) (some 24) (xq 15)) (some 25) (xq 16)) (some 26) (xq 17)) (some 27) (xq 18)) (some 28) (xq 19)) (some 29) (xq 20)) (some 30) (xq 21)) _
        simp only [putsL, Nat.reduceAdd, List.drop_succ_cons, List.drop_zero, List.drop_nil, Act.put, List.setIfInBounds_toArray, List.set_cons_succ, List.set_cons_zero]
        try simp only [f0, f1, f2, f3, f4, f5, f6, f7, f8, f9, f10, f11, f12, f13, f14, f15, f16, f17, f18, f19, f20, f21]
        clear f0 f1 f2 f3 f4 f5 f6 f7 f8 f9 f10 f11 f12 f13 f14 f15 f16 f17 f18 f19 f20 f21
        clear holdq hapq
        go_wp2
        go_ret
        exact ⟨ret_bool (by simp [hlt, hge]), hE.trans ((Ext.refl _).drew.trans herq)⟩
  · skip
    refine wp_region_facts [] [([], false, false), ([0], false, false), ([], false, false), ([2], false, false), ([0, 1, 2, 3], false, false), ([0, 1, 2, 3, 4], false, false), ([0, 1, 2, 3, 4, 5], false, false), ([0, 1, 2, 3, 4, 5], false, false), ([0, 1, 2, 3, 4, 5], false, false), ([0, 1, 2, 3, 4, 5, 6, 7, 8], false, false), ([0, 1, 2, 3, 4, 5, 6, 7, 8, 9], false, false), ([0, 1, 2, 3, 4, 5, 6, 7, 8, 9, 10], false, false), ([0, 1, 2, 3, 4, 5, 6, 7, 8, 9, 10, 11], false, false), ([0, 1, 2, 3, 4, 5, 6, 7, 8, 9, 10, 11], false, false), ([0, 1, 2, 3, 4, 5, 6, 7, 8, 9, 10, 11], false, false), ([0, 1, 2, 3, 4, 5, 6, 7, 8, 9, 10, 11, 12, 13, 14], false, false), ([0, 1, 2, 3, 4, 5, 6, 7, 8, 9, 10, 11], false, false), ([0, 1, 2, 3, 4, 5, 6, 7, 8, 9, 10, 11], false, false), ([0, 1, 2, 3, 4, 5, 6, 7, 8, 9, 10, 11], false, false), ([0, 1, 2, 3, 4, 5, 6, 7, 8, 9, 10, 11, 16, 17, 18], false, false), ([0, 1, 2, 3, 4, 5, 6, 7, 8, 9, 10, 11, 12, 13, 14, 15, 16, 17, 18, 19], false, false), ([0, 1, 2, 3, 4, 5, 6, 7, 8, 9, 10, 11, 12, 13, 14, 15, 16, 17, 18, 19, 20], false, false)] (Ext) Ext (fun _ => True) (by kernel_rfl) (by kernel_rfl) Ext.refl (fun _ _ _ => Ext.trans) (fun _ _ h => h) (fun _ _ h => h.size) (fun _ _ h _ => h) trivial ?_
    dsimp only [List.length_cons, List.length_nil, List.drop_succ_cons, List.drop_zero, List.drop_nil]
    refine fac_quiet 0 rfl rfl rfl (fun _ _ h _ => h) rfl rfl ?_
    apply Exists.intro
    refine ⟨fun sv w' hw' hfa => ?_, ?_⟩
    · refine ⟨rfl, ?_⟩
      simp only [putsL]
      change quietTo _ _ _ _ (Sem.run _ (execOp (Act.eval _) _) _)
      try simp only [Act.put, List.setIfInBounds_toArray, List.set_cons_succ, List.set_cons_zero]
      simp [go_sem, quietTo, Ext.refl]
      all_goals first
        | rfl
    refine fac_quiet 1 rfl rfl rfl (fun _ _ h _ => h) rfl rfl ?_
    apply Exists.intro
    refine ⟨fun sv w' hw' hfa => ?_, ?_⟩
    · obtain ⟨f0, -⟩ := hfa
      replace f0 : sv 0 = _ := f0
      try dsimp only at f0
      have hk9 := (Ext.refl W).drew.trans hw'; obtain ⟨y1, -⟩ := (hX.ext hk9).walk; obtain ⟨y2, -⟩ := (hY.ext hk9).walk; obtain ⟨y3, -⟩ := (hZ.ext hk9).walk
      refine ⟨rfl, ?_⟩
      simp only [putsL]
      change quietTo _ _ _ _ (Sem.run _ (execOp (Act.eval (Act.put _ (some 9) (sv 0))) _) _)
      try simp only [Act.put, List.setIfInBounds_toArray, List.set_cons_succ, List.set_cons_zero]
      simp [go_sem, quietTo, Ext.refl, ↓IntWalk.iteOmega, f0, y2]
      all_goals try simp (disch := omega) only [IntWalk.i64_in]
      all_goals first
        | rfl
    refine fac_quiet 2 rfl rfl rfl (fun _ _ h _ => h) rfl rfl ?_
    apply Exists.intro
    refine ⟨fun sv w' hw' hfa => ?_, ?_⟩
    · refine ⟨rfl, ?_⟩
      simp only [putsL]
      change quietTo _ _ _ _ (Sem.run _ (execOp (Act.eval _) _) _)
      try simp only [Act.put, List.setIfInBounds_toArray, List.set_cons_succ, List.set_cons_zero]
      simp [go_sem, quietTo, Ext.refl]
      all_goals first
        | rfl
    refine fac_quiet 3 rfl rfl rfl (fun _ _ h _ => h) rfl rfl ?_
    apply Exists.intro
    refine ⟨fun sv w' hw' hfa => ?_, ?_⟩
    · obtain ⟨f2, -⟩ := hfa
      replace f2 : sv 2 = _ := f2
      try dsimp only at f2
      have hk9 := (Ext.refl W).drew.trans hw'; obtain ⟨y1, -⟩ := (hX.ext hk9).walk; obtain ⟨y2, -⟩ := (hY.ext hk9).walk; obtain ⟨y3, -⟩ := (hZ.ext hk9).walk
      refine ⟨rfl, ?_⟩
      simp only [putsL]
      change quietTo _ _ _ _ (Sem.run _ (execOp (Act.eval (Act.put _ (some 11) (sv 2))) _) _)
      try simp only [Act.put, List.setIfInBounds_toArray, List.set_cons_succ, List.set_cons_zero]
      simp [go_sem, quietTo, Ext.refl, ↓IntWalk.iteOmega, f2, y3]
      all_goals try simp (disch := omega) only [IntWalk.i64_in]
      all_goals first
        | rfl
    refine fac_quiet 4 rfl rfl rfl (fun _ _ h _ => h) rfl rfl ?_
    apply Exists.intro
    refine ⟨fun sv w' hw' hfa => ?_, ?_⟩
    · obtain ⟨_, f1, _, f3, -⟩ := hfa
      replace f1 : sv 1 = _ := f1
      try dsimp only at f1
      replace f3 : sv 3 = _ := f3
      try dsimp only at f3
      have hk9 := (Ext.refl W).drew.trans hw'; obtain ⟨y1, -⟩ := (hX.ext hk9).walk; obtain ⟨y2, -⟩ := (hY.ext hk9).walk; obtain ⟨y3, -⟩ := (hZ.ext hk9).walk
      refine ⟨rfl, ?_⟩
      simp only [putsL]
      change quietTo _ _ _ _ (Sem.run _ (execOp (Act.eval (Act.put (Act.put (Act.put (Act.put _ (some 12) (sv 3)) (some 11) (sv 2)) (some 10) (sv 1)) (some 9) (sv 0))) _) _)
      try simp only [Act.put, List.setIfInBounds_toArray, List.set_cons_succ, List.set_cons_zero]
      simp [go_sem, quietTo, Ext.refl, ↓IntWalk.iteOmega, f1, f3, hlt]
      all_goals try simp (disch := omega) only [IntWalk.i64_in]
      all_goals first
        | rfl
    refine fac_quiet 5 rfl rfl rfl (fun _ _ h _ => h) rfl rfl ?_
    apply Exists.intro
    refine ⟨fun sv w' hw' hfa => ?_, ?_⟩
    · obtain ⟨_, _, _, _, f4, -⟩ := hfa
      replace f4 : sv 4 = _ := f4
      try dsimp only at f4
      refine ⟨rfl, ?_⟩
      simp only [putsL]
      change quietTo _ _ _ _ (Sem.run _ (execOp (Act.eval (Act.put (Act.put (Act.put (Act.put (Act.put _ (some 13) (sv 4)) (some 12) (sv 3)) (some 11) (sv 2)) (some 10) (sv 1)) (some 9) (sv 0))) _) _)
      try simp only [Act.put, List.setIfInBounds_toArray, List.set_cons_succ, List.set_cons_zero]
      simp [go_sem, quietTo, Ext.refl, f4]
      all_goals first
        | rfl
    refine fac_skip 6 rfl rfl rfl (fun _ _ h _ => h) Ext.refl ?_ ?_
    · intro sv w' hw' hfa
      obtain ⟨f0, f1, f2, f3, f4, f5, -⟩ := hfa
      replace f0 : sv 0 = _ := f0
      try dsimp only at f0
      replace f1 : sv 1 = _ := f1
      try dsimp only at f1
      replace f2 : sv 2 = _ := f2
      try dsimp only at f2
      replace f3 : sv 3 = _ := f3
      try dsimp only at f3
      replace f4 : sv 4 = _ := f4
      try dsimp only at f4
      replace f5 : sv 5 = _ := f5
      try dsimp only at f5
      simp [Region.wanted, yielded, putsL, Act.put, f5]
    refine fac_skip 7 rfl rfl rfl (fun _ _ h _ => h) Ext.refl ?_ ?_
    · intro sv w' hw' hfa
      obtain ⟨f0, f1, f2, f3, f4, f5, -⟩ := hfa
      replace f0 : sv 0 = _ := f0
      try dsimp only at f0
      replace f1 : sv 1 = _ := f1
      try dsimp only at f1
      replace f2 : sv 2 = _ := f2
      try dsimp only at f2
      replace f3 : sv 3 = _ := f3
      try dsimp only at f3
      replace f4 : sv 4 = _ := f4
      try dsimp only at f4
      replace f5 : sv 5 = _ := f5
      try dsimp only at f5
      simp [Region.wanted, yielded, putsL, Act.put, f5]
    refine fac_skip 8 rfl rfl rfl (fun _ _ h _ => h) Ext.refl ?_ ?_
    · intro sv w' hw' hfa
      obtain ⟨f0, f1, f2, f3, f4, f5, -⟩ := hfa
      replace f0 : sv 0 = _ := f0
      try dsimp only at f0
      replace f1 : sv 1 = _ := f1
      try dsimp only at f1
      replace f2 : sv 2 = _ := f2
      try dsimp only at f2
      replace f3 : sv 3 = _ := f3
      try dsimp only at f3
      replace f4 : sv 4 = _ := f4
      try dsimp only at f4
      replace f5 : sv 5 = _ := f5
      try dsimp only at f5
      simp [Region.wanted, yielded, putsL, Act.put, f5]
    refine fac_skip 9 rfl rfl rfl (fun _ _ h _ => h) Ext.refl ?_ ?_
    · intro sv w' hw' hfa
      obtain ⟨f0, f1, f2, f3, f4, f5, f6, f7, f8, -⟩ := hfa
      replace f0 : sv 0 = _ := f0
      try dsimp only at f0
      replace f1 : sv 1 = _ := f1
      try dsimp only at f1
      replace f2 : sv 2 = _ := f2
      try dsimp only at f2
      replace f3 : sv 3 = _ := f3
      try dsimp only at f3
      replace f4 : sv 4 = _ := f4
      try dsimp only at f4
      replace f5 : sv 5 = _ := f5
      try dsimp only at f5
      replace f6 : sv 6 = _ := f6
      try dsimp only at f6
      replace f7 : sv 7 = _ := f7
      try dsimp only at f7
      replace f8 : sv 8 = _ := f8
      try dsimp only at f8
      simp [Region.wanted, yielded, putsL, Act.put, f5, f6, f7, f8]
    refine fac_quiet 10 rfl rfl rfl (fun _ _ h _ => h) rfl rfl ?_
    apply Exists.intro
    refine ⟨fun sv w' hw' hfa => ?_, ?_⟩
    · obtain ⟨_, _, _, _, _, f5, _, _, _, f9, -⟩ := hfa
      replace f5 : sv 5 = _ := f5
      try dsimp only at f5
      replace f9 : sv 9 = _ := f9
      try dsimp only at f9
      refine ⟨rfl, ?_⟩
      simp only [putsL]
      change quietTo _ _ _ _ (Sem.run _ (execOp (Act.eval (Act.put (Act.put (Act.put (Act.put (Act.put (Act.put (Act.put (Act.put (Act.put (Act.put _ (some 18) (sv 9)) (some 17) (sv 8)) (some 16) (sv 7)) (some 15) (sv 6)) (some 14) (sv 5)) (some 13) (sv 4)) (some 12) (sv 3)) (some 11) (sv 2)) (some 10) (sv 1)) (some 9) (sv 0))) _) _)
      try simp only [Act.put, List.setIfInBounds_toArray, List.set_cons_succ, List.set_cons_zero]
      simp [go_sem, quietTo, Ext.refl, ↓IntWalk.iteOmega, f5, f9]
      all_goals try simp (disch := omega) only [IntWalk.i64_in]
      all_goals first
        | rfl
    refine fac_quiet 11 rfl rfl rfl (fun _ _ h _ => h) rfl rfl ?_
    apply Exists.intro
    refine ⟨fun sv w' hw' hfa => ?_, ?_⟩
    · obtain ⟨_, _, _, _, _, _, _, _, _, _, f10, -⟩ := hfa
      replace f10 : sv 10 = _ := f10
      try dsimp only at f10
      refine ⟨rfl, ?_⟩
      simp only [putsL]
      change quietTo _ _ _ _ (Sem.run _ (execOp (Act.eval (Act.put (Act.put (Act.put (Act.put (Act.put (Act.put (Act.put (Act.put (Act.put (Act.put (Act.put _ (some 19) (sv 10)) (some 18) (sv 9)) (some 17) (sv 8)) (some 16) (sv 7)) (some 15) (sv 6)) (some 14) (sv 5)) (some 13) (sv 4)) (some 12) (sv 3)) (some 11) (sv 2)) (some 10) (sv 1)) (some 9) (sv 0))) _) _)
      try simp only [Act.put, List.setIfInBounds_toArray, List.set_cons_succ, List.set_cons_zero]
      simp [go_sem, quietTo, Ext.refl, f10]
      all_goals first
        | rfl
    refine fac_skip 12 rfl rfl rfl (fun _ _ h _ => h) Ext.refl ?_ ?_
    · intro sv w' hw' hfa
      obtain ⟨f0, f1, f2, f3, f4, f5, f6, f7, f8, f9, f10, f11, -⟩ := hfa
      replace f0 : sv 0 = _ := f0
      try dsimp only at f0
      replace f1 : sv 1 = _ := f1
      try dsimp only at f1
      replace f2 : sv 2 = _ := f2
      try dsimp only at f2
      replace f3 : sv 3 = _ := f3
      try dsimp only at f3
      replace f4 : sv 4 = _ := f4
      try dsimp only at f4
      replace f5 : sv 5 = _ := f5
      try dsimp only at f5
      replace f6 : sv 6 = _ := f6
      try dsimp only at f6
      replace f7 : sv 7 = _ := f7
      try dsimp only at f7
      replace f8 : sv 8 = _ := f8
      try dsimp only at f8
      replace f9 : sv 9 = _ := f9
      try dsimp only at f9
      replace f10 : sv 10 = _ := f10
      try dsimp only at f10
      replace f11 : sv 11 = _ := f11
      try dsimp only at f11
      simp [Region.wanted, yielded, putsL, Act.put, f11]
    refine fac_skip 13 rfl rfl rfl (fun _ _ h _ => h) Ext.refl ?_ ?_
    · intro sv w' hw' hfa
      obtain ⟨f0, f1, f2, f3, f4, f5, f6, f7, f8, f9, f10, f11, -⟩ := hfa
      replace f0 : sv 0 = _ := f0
      try dsimp only at f0
      replace f1 : sv 1 = _ := f1
      try dsimp only at f1
      replace f2 : sv 2 = _ := f2
      try dsimp only at f2
      replace f3 : sv 3 = _ := f3
      try dsimp only at f3
      replace f4 : sv 4 = _ := f4
      try dsimp only at f4
      replace f5 : sv 5 = _ := f5
      try dsimp only at f5
      replace f6 : sv 6 = _ := f6
      try dsimp only at f6
      replace f7 : sv 7 = _ := f7
      try dsimp only at f7
      replace f8 : sv 8 = _ := f8
      try dsimp only at f8
      replace f9 : sv 9 = _ := f9
      try dsimp only at f9
      replace f10 : sv 10 = _ := f10
      try dsimp only at f10
      replace f11 : sv 11 = _ := f11
      try dsimp only at f11
      simp [Region.wanted, yielded, putsL, Act.put, f11]
    refine fac_skip 14 rfl rfl rfl (fun _ _ h _ => h) Ext.refl ?_ ?_
    · intro sv w' hw' hfa
      obtain ⟨f0, f1, f2, f3, f4, f5, f6, f7, f8, f9, f10, f11, -⟩ := hfa
      replace f0 : sv 0 = _ := f0
      try dsimp only at f0
      replace f1 : sv 1 = _ := f1
      try dsimp only at f1
      replace f2 : sv 2 = _ := f2
      try dsimp only at f2
      replace f3 : sv 3 = _ := f3
      try dsimp only at f3
      replace f4 : sv 4 = _ := f4
      try dsimp only at f4
      replace f5 : sv 5 = _ := f5
      try dsimp only at f5
      replace f6 : sv 6 = _ := f6
      try dsimp only at f6
      replace f7 : sv 7 = _ := f7
      try dsimp only at f7
      replace f8 : sv 8 = _ := f8
      try dsimp only at f8
      replace f9 : sv 9 = _ := f9
      try dsimp only at f9
      replace f10 : sv 10 = _ := f10
      try dsimp only at f10
      replace f11 : sv 11 = _ := f11
      try dsimp only at f11
      simp [Region.wanted, yielded, putsL, Act.put, f11]
    refine fac_skip 15 rfl rfl rfl (fun _ _ h _ => h) Ext.refl ?_ ?_
    · intro sv w' hw' hfa
      obtain ⟨f0, f1, f2, f3, f4, f5, f6, f7, f8, f9, f10, f11, f12, f13, f14, -⟩ := hfa
      replace f0 : sv 0 = _ := f0
      try dsimp only at f0
      replace f1 : sv 1 = _ := f1
      try dsimp only at f1
      replace f2 : sv 2 = _ := f2
      try dsimp only at f2
      replace f3 : sv 3 = _ := f3
      try dsimp only at f3
      replace f4 : sv 4 = _ := f4
      try dsimp only at f4
      replace f5 : sv 5 = _ := f5
      try dsimp only at f5
      replace f6 : sv 6 = _ := f6
      try dsimp only at f6
      replace f7 : sv 7 = _ := f7
      try dsimp only at f7
      replace f8 : sv 8 = _ := f8
      try dsimp only at f8
      replace f9 : sv 9 = _ := f9
      try dsimp only at f9
      replace f10 : sv 10 = _ := f10
      try dsimp only at f10
      replace f11 : sv 11 = _ := f11
      try dsimp only at f11
      replace f12 : sv 12 = _ := f12
      try dsimp only at f12
      replace f13 : sv 13 = _ := f13
      try dsimp only at f13
      replace f14 : sv 14 = _ := f14
      try dsimp only at f14
      simp [Region.wanted, yielded, putsL, Act.put, f11, f12, f13, f14]
    refine fac_skip 16 rfl rfl rfl (fun _ _ h _ => h) Ext.refl ?_ ?_
    · intro sv w' hw' hfa
      obtain ⟨f0, f1, f2, f3, f4, f5, f6, f7, f8, f9, f10, f11, -⟩ := hfa
      replace f0 : sv 0 = _ := f0
      try dsimp only at f0
      replace f1 : sv 1 = _ := f1
      try dsimp only at f1
      replace f2 : sv 2 = _ := f2
      try dsimp only at f2
      replace f3 : sv 3 = _ := f3
      try dsimp only at f3
      replace f4 : sv 4 = _ := f4
      try dsimp only at f4
      replace f5 : sv 5 = _ := f5
      try dsimp only at f5
      replace f6 : sv 6 = _ := f6
      try dsimp only at f6
      replace f7 : sv 7 = _ := f7
      try dsimp only at f7
      replace f8 : sv 8 = _ := f8
      try dsimp only at f8
      replace f9 : sv 9 = _ := f9
      try dsimp only at f9
      replace f10 : sv 10 = _ := f10
      try dsimp only at f10
      replace f11 : sv 11 = _ := f11
      try dsimp only at f11
      simp [Region.wanted, yielded, putsL, Act.put, f11]
    refine fac_skip 17 rfl rfl rfl (fun _ _ h _ => h) Ext.refl ?_ ?_
    · intro sv w' hw' hfa
      obtain ⟨f0, f1, f2, f3, f4, f5, f6, f7, f8, f9, f10, f11, -⟩ := hfa
      replace f0 : sv 0 = _ := f0
      try dsimp only at f0
      replace f1 : sv 1 = _ := f1
      try dsimp only at f1
      replace f2 : sv 2 = _ := f2
      try dsimp only at f2
      replace f3 : sv 3 = _ := f3
      try dsimp only at f3
      replace f4 : sv 4 = _ := f4
      try dsimp only at f4
      replace f5 : sv 5 = _ := f5
      try dsimp only at f5
      replace f6 : sv 6 = _ := f6
      try dsimp only at f6
      replace f7 : sv 7 = _ := f7
      try dsimp only at f7
      replace f8 : sv 8 = _ := f8
      try dsimp only at f8
      replace f9 : sv 9 = _ := f9
      try dsimp only at f9
      replace f10 : sv 10 = _ := f10
      try dsimp only at f10
      replace f11 : sv 11 = _ := f11
      try dsimp only at f11
      simp [Region.wanted, yielded, putsL, Act.put, f11]
    refine fac_skip 18 rfl rfl rfl (fun _ _ h _ => h) Ext.refl ?_ ?_
    · intro sv w' hw' hfa
      obtain ⟨f0, f1, f2, f3, f4, f5, f6, f7, f8, f9, f10, f11, -⟩ := hfa
      replace f0 : sv 0 = _ := f0
      try dsimp only at f0
      replace f1 : sv 1 = _ := f1
      try dsimp only at f1
      replace f2 : sv 2 = _ := f2
      try dsimp only at f2
      replace f3 : sv 3 = _ := f3
      try dsimp only at f3
      replace f4 : sv 4 = _ := f4
      try dsimp only at f4
      replace f5 : sv 5 = _ := f5
      try dsimp only at f5
      replace f6 : sv 6 = _ := f6
      try dsimp only at f6
      replace f7 : sv 7 = _ := f7
      try dsimp only at f7
      replace f8 : sv 8 = _ := f8
      try dsimp only at f8
      replace f9 : sv 9 = _ := f9
      try dsimp only at f9
      replace f10 : sv 10 = _ := f10
      try dsimp only at f10
      replace f11 : sv 11 = _ := f11
      try dsimp only at f11
      simp [Region.wanted, yielded, putsL, Act.put, f11]
    refine fac_skip 19 rfl rfl rfl (fun _ _ h _ => h) Ext.refl ?_ ?_
    · intro sv w' hw' hfa
      obtain ⟨f0, f1, f2, f3, f4, f5, f6, f7, f8, f9, f10, f11, f16, f17, f18, -⟩ := hfa
      replace f0 : sv 0 = _ := f0
      try dsimp only at f0
      replace f1 : sv 1 = _ := f1
      try dsimp only at f1
      replace f2 : sv 2 = _ := f2
      try dsimp only at f2
      replace f3 : sv 3 = _ := f3
      try dsimp only at f3
      replace f4 : sv 4 = _ := f4
      try dsimp only at f4
      replace f5 : sv 5 = _ := f5
      try dsimp only at f5
      replace f6 : sv 6 = _ := f6
      try dsimp only at f6
      replace f7 : sv 7 = _ := f7
      try dsimp only at f7
      replace f8 : sv 8 = _ := f8
      try dsimp only at f8
      replace f9 : sv 9 = _ := f9
      try dsimp only at f9
      replace f10 : sv 10 = _ := f10
      try dsimp only at f10
      replace f11 : sv 11 = _ := f11
      try dsimp only at f11
      replace f16 : sv 16 = _ := f16
      try dsimp only at f16
      replace f17 : sv 17 = _ := f17
      try dsimp only at f17
      replace f18 : sv 18 = _ := f18
      try dsimp only at f18
      simp [Region.wanted, yielded, putsL, Act.put, f11, f16, f17, f18]
    refine fac_skip 20 rfl rfl rfl (fun _ _ h _ => h) Ext.refl ?_ ?_
    · intro sv w' hw' hfa
      obtain ⟨f0, f1, f2, f3, f4, f5, f6, f7, f8, f9, f10, f11, f12, f13, f14, f15, f16, f17, f18, f19, -⟩ := hfa
      replace f0 : sv 0 = _ := f0
      try dsimp only at f0
      replace f1 : sv 1 = _ := f1
      try dsimp only at f1
      replace f2 : sv 2 = _ := f2
      try dsimp only at f2
      replace f3 : sv 3 = _ := f3
      try dsimp only at f3
      replace f4 : sv 4 = _ := f4
      try dsimp only at f4
      replace f5 : sv 5 = _ := f5
      try dsimp only at f5
      replace f6 : sv 6 = _ := f6
      try dsimp only at f6
      replace f7 : sv 7 = _ := f7
      try dsimp only at f7
      replace f8 : sv 8 = _ := f8
      try dsimp only at f8
      replace f9 : sv 9 = _ := f9
      try dsimp only at f9
      replace f10 : sv 10 = _ := f10
      try dsimp only at f10
      replace f11 : sv 11 = _ := f11
      try dsimp only at f11
      replace f12 : sv 12 = _ := f12
      try dsimp only at f12
      replace f13 : sv 13 = _ := f13
      try dsimp only at f13
      replace f14 : sv 14 = _ := f14
      try dsimp only at f14
      replace f15 : sv 15 = _ := f15
      try dsimp only at f15
      replace f16 : sv 16 = _ := f16
      try dsimp only at f16
      replace f17 : sv 17 = _ := f17
      try dsimp only at f17
      replace f18 : sv 18 = _ := f18
      try dsimp only at f18
      replace f19 : sv 19 = _ := f19
      try dsimp only at f19
      simp [Region.wanted, yielded, putsL, Act.put, f11, f15, f19]
    refine fac_quiet 21 rfl rfl rfl (fun _ _ h _ => h) rfl rfl ?_
    apply Exists.intro
    refine ⟨fun sv w' hw' hfa => ?_, ?_⟩
    · obtain ⟨_, _, _, _, _, _, _, _, _, _, _, f11, _, _, _, _, _, _, _, _, f20, -⟩ := hfa
      replace f11 : sv 11 = _ := f11
      try dsimp only at f11
      replace f20 : sv 20 = _ := f20
      try dsimp only at f20
      refine ⟨rfl, ?_⟩
      simp only [putsL]
      change quietTo _ _ _ _ (Sem.run _ (execOp (Act.eval (Act.put (Act.put (Act.put (Act.put (Act.put (Act.put (Act.put (Act.put (Act.put (Act.put (Act.put (Act.put (Act.put (Act.put (Act.put (Act.put (Act.put (Act.put (Act.put (Act.put (Act.put _ (some 29) (sv 20)) (some 28) (sv 19)) (some 27) (sv 18)) (some 26) (sv 17)) (some 25) (sv 16)) (some 24) (sv 15)) (some 23) (sv 14)) (some 22) (sv 13)) (some 21) (sv 12)) (some 20) (sv 11)) (some 19) (sv 10)) (some 18) (sv 9)) (some 17) (sv 8)) (some 16) (sv 7)) (some 15) (sv 6)) (some 14) (sv 5)) (some 13) (sv 4)) (some 12) (sv 3)) (some 11) (sv 2)) (some 10) (sv 1)) (some 9) (sv 0))) _) _)
      try simp only [Act.put, List.setIfInBounds_toArray, List.set_cons_succ, List.set_cons_zero]
      simp [go_sem, quietTo, Ext.refl, ↓IntWalk.iteOmega, f11, f20]
      all_goals try simp (disch := omega) only [IntWalk.i64_in]
      all_goals first
        | rfl
    refine fac_nil fun xq wrq herq hfrq hcrq holdq hapq => ?_
    obtain ⟨f0, f1, f2, f3, f4, f5, f6, f7, f8, f9, f10, f11, f12, f13, f14, f15, f16, f17, f18, f19, f20, f21, -⟩ := hfrq
    replace f0 : xq 0 = _ := f0
    try dsimp only at f0
    replace f1 : xq 1 = _ := f1
    try dsimp only at f1
    replace f2 : xq 2 = _ := f2
    try dsimp only at f2
    replace f3 : xq 3 = _ := f3
    try dsimp only at f3
    replace f4 : xq 4 = _ := f4
    try dsimp only at f4
    replace f5 : xq 5 = _ := f5
    try dsimp only at f5
    replace f6 : xq 6 = _ := f6
    try dsimp only at f6
    replace f7 : xq 7 = _ := f7
    try dsimp only at f7
    replace f8 : xq 8 = _ := f8
    try dsimp only at f8
    replace f9 : xq 9 = _ := f9
    try dsimp only at f9
    replace f10 : xq 10 = _ := f10
    try dsimp only at f10
    replace f11 : xq 11 = _ := f11
    try dsimp only at f11
    replace f12 : xq 12 = _ := f12
    try dsimp only at f12
    replace f13 : xq 13 = _ := f13
    try dsimp only at f13
    replace f14 : xq 14 = _ := f14
    try dsimp only at f14
    replace f15 : xq 15 = _ := f15
    try dsimp only at f15
    replace f16 : xq 16 = _ := f16
    try dsimp only at f16
    replace f17 : xq 17 = _ := f17
    try dsimp only at f17
    replace f18 : xq 18 = _ := f18
    try dsimp only at f18
    replace f19 : xq 19 = _ := f19
    try dsimp only at f19
    replace f20 : xq 20 = _ := f20
    try dsimp only at f20
    replace f21 : xq 21 = _ := f21
    try dsimp only at f21
    change wpList _ _ _ _ (Act.put (Act.put (Act.put (Act.put (Act.put (Act.put (Act.put (Act.put (Act.put (Act.put (Act.put (Act.put (Act.put (Act.put (Act.put (Act.put (Act.put (Act.put (Act.put (Act.put (Act.put (Act.put _ (some 9) (xq 0)) (some 10) (xq 1)) (some 11) (xq 2)) (some 12) (xq 3)) (some 13) (xq 4)) (some 14) (xq 5)) (some 15) (xq 6)) (some 16) (xq 7)) (some 17) (xq 8)) (some 18) (xq 9)) (some 19) (xq 10)) (some 20) (xq 11)) (some 21) (xq 12)) (some 22) (xq 13)) (some 23) (xq 14)) (some 24) (xq 15)) (some 25) (xq 16)) (some 26) (xq 17)) (some 27) (xq 18)) (some 28) (xq 19)) (some 29) (xq 20)) (some 30) (xq 21)) _
    simp only [putsL, Nat.reduceAdd, List.drop_succ_cons, List.drop_zero, List.drop_nil, Act.put, List.setIfInBounds_toArray, List.set_cons_succ, List.set_cons_zero]
    try simp only [f0, f1, f2, f3, f4, f5, f6, f7, f8, f9, f10, f11, f12, f13, f14, f15, f16, f17, f18, f19, f20, f21]
    clear f0 f1 f2 f3 f4 f5 f6 f7 f8 f9 f10 f11 f12 f13 f14 f15 f16 f17 f18 f19 f20 f21
    clear holdq hapq
    go_wp2
    go_ret
    exact ⟨ret_bool (by rw [show decide (x.row < y.row) = false from decide_eq_false (by omega)]; rfl), hE.trans ((Ext.refl _).drew.trans herq)⟩
end Go.Proofs.YtfbegdcmnfkhgaaGreatDoor
